/- A part of the proof: a logic for calls over plain values, and the functions that the law reaches, each walked once. -/
import Derived.Test.YtcjiacchgddnpaaGreatPR11
set_option linter.unusedVariables false
set_option linter.unusedSimpArgs false
set_option linter.unusedSectionVars false
namespace Go.Am
open Go.Proofs Go.Sort
def sideF (b:Bool):Int:=if b then -1 else 1
theorem c98 (b:Bool):Pur Tryz.prog 98 [.bool b] (.int .i64 (sideF b)):=by
 refine zl Tst.F98 (by simp [Tst.F98,Fn.mkX]) fun σ => ?_
 simp only [Tst.F98,Fn.mkX,Tst.b98]
 cases b <;> simp only [↓vcPre,↓z0,↓reduceIte,vcPost,vcStd,Nat.reduceEqDiff,reduceCtorEq,Nat.reduceAdd,Nat.reduceLeDiff,Int.reduceLT,Int.reduceLE,↓u_setN] <;> rfl
theorem c59 (l m:List Seg) (hl:l.length≤1000000) (hm:m.length≤1000000) (hlo:∀ s ∈ l,s.ok) (hmo:∀ s ∈ m,s.ok):Pur Tryz.prog 59 [.sl 2 (l.map Seg.c),.sl 2 (m.map Seg.c)] (.int .i64 (cmpPath l m)):=by
 refine zl Tst.F59 (by simp [Tst.F59,Fn.mkX]) fun σ => ?_
 simp only [Tst.F59,Fn.mkX,Tst.b59]
 simp only [↓vcPre,↓z0,↓reduceIte,vcPost,vcStd,Nat.reduceEqDiff,reduceCtorEq,Nat.reduceAdd,Nat.reduceLeDiff,Int.reduceLT,Int.reduceLE,↓u_setN]
 refine LoopQ.inv (S:=Nat) (fun k=>[(0,.sl 2 (l.map Seg.c)),(1,.sl 2 (m.map Seg.c)),(5,.int .i64 (k:Int))]) (fun _=>σ) (fun k=>k≤l.length∧k≤m.length∧cmpG cmpSeg (l.drop k) (m.drop k)=cmpPath l m) (fun k=>l.length+1 - k) 0 rfl (Store.sub_refl _) ⟨by omega,by omega,rfl⟩ ?_
 rintro k ⟨hk,hk2,ho⟩
 simp only [↓vcPre,↓z0,↓reduceIte,vcPost,vcStd,Nat.reduceEqDiff,reduceCtorEq,Nat.reduceAdd,Nat.reduceLeDiff,Int.reduceLT,Int.reduceLE,↓u_setN]
 have hside:∀ x y:Int,x≠y→sideF (decide (x<y))=cmpI x y:=fun x y h=>by
  unfold sideF cmpI
  by_cases h1:x<y
  ·simp [h1]
  ·have h2:y<x:=by omega
   simp [h1,h2]
 have he1:(k=l.length∨k=m.length)→¬ (l.length:Int)=(m.length:Int)→sideF (decide (l.length<m.length))=cmpPath l m:=fun hkk h1=>by
  rw [←ho]
  by_cases h2:l.length<m.length
  ·rw [show List.drop k l=[] from List.drop_eq_nil_of_le (by omega),List.drop_eq_getElem_cons (l:=m) (by omega)]
   simp [sideF,cmpG,h2]
  ·rw [show List.drop k m=[] from List.drop_eq_nil_of_le (by omega),List.drop_eq_getElem_cons (l:=l) (by omega)]
   simp [sideF,cmpG,h2]
 have he2:(k=l.length∨k=m.length)→(l.length:Int)=(m.length:Int)→0=cmpPath l m:=fun hkk h1=>by
  rw [←ho,show List.drop k l=[] from List.drop_eq_nil_of_le (by omega),show List.drop k m=[] from List.drop_eq_nil_of_le (by omega)]
  rfl
 refine ⟨fun c1=>⟨fun c2 => ?_,fun c2 => ?_⟩,fun c1 => ?_⟩
 ·rw [List.drop_eq_getElem_cons c1,List.drop_eq_getElem_cons c2] at ho
  simp only [cmpG] at ho
  refine ⟨c1,c2,by simp [Seg.c],?_⟩
  have hxo:=hlo _ (List.getElem_mem c1)
  have hyo:=hmo _ (List.getElem_mem c2)
  have hc1:cmpSeg l[k] m[k]=orL [cmpI l[k].kind m[k].kind,cmpI l[k].ls.length m[k].ls.length,cmpG cmpI l[k].ls m[k].ls]:=rfl
  simp only [Seg.c,↓vcPre,↓z0,↓reduceIte,vcPost,vcStd,Nat.reduceEqDiff,reduceCtorEq,Nat.reduceAdd,Nat.reduceLeDiff,Int.reduceLT,Int.reduceLE,↓u_setN]
  refine ⟨fun g1=>⟨c1,c2,(c98 _).Q ?_⟩,fun g1=>⟨c1,c2,fun g2=>⟨c1,c2,(c98 _).Q ?_⟩,fun g2 => ?_⟩⟩
  ·have hz:cmpI l[k].kind m[k].kind≠0:=fun e=>g1 (cmpI_z.1 e)
   have h1:cmpSeg l[k] m[k]=cmpI l[k].kind m[k].kind:=by rw [hc1];simp only [orL];rw [if_neg hz]
   simp only [↓vcPre,↓z0,↓reduceIte,vcPost,vcStd,Nat.reduceEqDiff,reduceCtorEq,Nat.reduceAdd,Nat.reduceLeDiff,Int.reduceLT,Int.reduceLE,↓u_setN]
   rw [hside _ _ g1,←ho,if_neg (by rw [h1];exact hz),h1]
  ·have hz:cmpI l[k].ls.length m[k].ls.length≠0:=fun e=>g2 (cmpI_z.1 e)
   have h1:cmpSeg l[k] m[k]=cmpI l[k].ls.length m[k].ls.length:=by rw [hc1];simp only [orL];rw [if_pos (cmpI_z.2 g1),if_neg hz]
   have h2:=hside _ _ g2
   simp only [Int.ofNat_lt] at h2
   simp only [↓vcPre,↓z0,↓reduceIte,vcPost,vcStd,Nat.reduceEqDiff,reduceCtorEq,Nat.reduceAdd,Nat.reduceLeDiff,Int.reduceLT,Int.reduceLE,↓u_setN]
   rw [h2,←ho,if_neg (by rw [h1];exact hz),h1]
  ·have h1:cmpSeg l[k] m[k]=cmpG cmpI l[k].ls m[k].ls:=by
    rw [hc1];simp only [orL];rw [if_pos (cmpI_z.2 g1),if_pos (cmpI_z.2 g2)]
    split
    ·rename_i h;rw [h]
    ·rfl
   rw [h1] at ho
   unfold Seg.ok at hxo hyo
   refine LoopQ.inv (S:=Nat) (fun j=>[(0,.sl 2 (l.map Seg.c)),(1,.sl 2 (m.map Seg.c)),(5,.int .i64 (k:Int)),(6,.int .i64 (j:Int))]) (fun _=>σ) (fun j=>j≤l[k].ls.length∧cmpG cmpI (l[k].ls.drop j) (m[k].ls.drop j)=cmpG cmpI l[k].ls m[k].ls) (fun j=>l[k].ls.length+1 - j) 0 rfl (Store.sub_refl _) ⟨by omega,rfl⟩ ?_
   rintro j ⟨hj,hjo⟩
   simp only [Seg.c,↓vcPre,↓z0,↓reduceIte,vcPost,vcStd,Nat.reduceEqDiff,reduceCtorEq,Nat.reduceAdd,Nat.reduceLeDiff,Int.reduceLT,Int.reduceLE,↓u_setN]
   have hjl:IntKind.i64.wrap ((j:Int)+1)=((j+1:Nat):Int):=by rw [za (by unfold I64;omega)];omega
   have hkl:IntKind.i64.wrap ((k:Int)+1)=((k+1:Nat):Int):=by rw [za (by unfold I64;omega)];omega
   refine ⟨c1,fun d1 => ?_,fun d1 => ?_⟩
   ·have d2:j<m[k].ls.length:=by omega
    rw [List.drop_eq_getElem_cons d1,List.drop_eq_getElem_cons d2] at hjo
    simp only [cmpG] at hjo
    refine ⟨c1,c2,d1,by simp [cU],?_⟩
    simp only [cU,↓vcPre,↓z0,↓reduceIte,vcPost,vcStd,Nat.reduceEqDiff,reduceCtorEq,Nat.reduceAdd,Nat.reduceLeDiff,Int.reduceLT,Int.reduceLE,↓u_setN]
    refine ⟨d2,fun e1=>⟨c1,c2,d1,d2,(c98 _).Q ?_⟩,fun e1 => ?_⟩
    ·have hz:cmpI l[k].ls[j] m[k].ls[j]≠0:=fun e=>e1 (cmpI_z.1 e)
     rw [if_neg hz] at hjo
     simp only [↓vcPre,↓z0,↓reduceIte,vcPost,vcStd,Nat.reduceEqDiff,reduceCtorEq,Nat.reduceAdd,Nat.reduceLeDiff,Int.reduceLT,Int.reduceLE,↓u_setN]
     rw [hside _ _ e1,←ho,←hjo,if_neg hz]
    ·rw [if_pos (cmpI_z.2 e1)] at hjo
     rw [hjl]
     exact NextQ.to (j+1) rfl (Store.sub_refl _) (by omega) ⟨by omega,hjo⟩
   ·rw [show List.drop j l[k].ls=[] from List.drop_eq_nil_of_le (by omega),show List.drop j m[k].ls=[] from List.drop_eq_nil_of_le (by omega)] at hjo
    have h0:cmpG cmpI l[k].ls m[k].ls=0:=by rw [←hjo];rfl
    rw [if_pos h0] at ho
    rw [hkl]
    exact NextQ.to (k+1) rfl (Store.sub_refl _) (by omega) ⟨by omega,by omega,ho⟩
 ·refine ⟨fun h1=>(c98 _).Q ?_,he2 (by omega)⟩
  simp only [↓vcPre,↓z0,↓reduceIte,vcPost,vcStd,Nat.reduceEqDiff,reduceCtorEq,Nat.reduceAdd,Nat.reduceLeDiff,Int.reduceLT,Int.reduceLE,↓u_setN]
  rw [he1 (by omega) h1]
 ·refine ⟨fun h1=>(c98 _).Q ?_,he2 (by omega)⟩
  simp only [↓vcPre,↓z0,↓reduceIte,vcPost,vcStd,Nat.reduceEqDiff,reduceCtorEq,Nat.reduceAdd,Nat.reduceLeDiff,Int.reduceLT,Int.reduceLE,↓u_setN]
  rw [he1 (by omega) h1]
def shortS (s:Seg):Seg:={ s with ls:=s.ls.take 6 }
def shortA (a:At):At:={ a with path:=(a.path.take 18).map shortS,cms:=a.cms.take 34 }
theorem z8x (l:List Seg):List.drop (Int.toNat 0) (List.take ((some (18:Int)).getD ↑l.length).toNat (List.map Seg.c l))=(l.take 18).map Seg.c:=by rw [List.map_take];rfl
theorem z4f (E:Env) (a:At) (hp:a.path.length≤18) {σ t:Store} {i j:Nat} {z:List AV} {n rr:Env→Store→Prop} {x:Nat→Env→Store→Prop} (hi:t i=some (.box a.c)) (hj:t j=some (.box z)) (hz:z.length=9) (hij:¬ i=j) (hσi:σ i=none) (hσj:σ j=none) (hsub:Store.sub σ t)
 (hret:∀ s v,Store.sub σ s→Own 2 σ ((a.path.map shortS).map Seg.c) v s→s j=some (.box [.int .i64 a.org,v,.int .u32 a.nxt,.bool a.hm,.int .u32 a.med,.bool a.hp,.int .u32 a.prf,.bool a.atm,.sl 1 ((a.cms.take 34).map cU)])→rr [(2,.ptr j 0)] s) :
 bwp Tryz.prog Tsd.t13_3 ((1,.ptr i 0)::(2,.ptr j 0)::E) t n rr x:=by
 simp only [Tsd.t13_3]
 have hji:¬ j=i:=fun e=>hij e.symm
 simp only [↓vcPre,↓z0,↓reduceIte,vcPost,vcStd,Nat.reduceEqDiff,reduceCtorEq,Nat.reduceAdd,Nat.reduceLeDiff,Int.reduceLT,Int.reduceLE,↓u_setN]
 obtain ⟨τ,q1,q2,q3,q4⟩:∃ τ,Store.sub σ τ∧Store.sub τ t∧τ i=some (.box a.c)∧τ j=some (.box z):=⟨t,hsub,Store.sub_refl _,hi,hj⟩
 refine LoopQ.inv (S:=Nat×AV×Store) (fun q=>[(1,.ptr i 0),(2,.ptr j 0),(3,q.2.1),(4,.int .i64 (q.1:Int))]) (fun q=>q.2.2) (fun q=>q.1≤a.path.length∧Store.sub τ q.2.2∧Own 2 τ (((a.path.take q.1).map shortS).map Seg.c) q.2.1 q.2.2) (fun q=>a.path.length+1 - q.1) (0,.nils,t) rfl (Store.sub_refl _) ⟨by simp only;omega,q2,.nil⟩ ?_
 rintro ⟨k,v,s⟩ ⟨hk,hs,ho⟩
 simp only at hk hs ho
 have hsi:=hs _ _ q3
 have hsj:=hs _ _ q4
 simp only [hsi,At.c,↓vcPre,↓z0,↓reduceIte,vcPost,vcStd,Nat.reduceEqDiff,reduceCtorEq,Nat.reduceAdd,Nat.reduceLeDiff,Int.reduceLT,Int.reduceLE,↓u_setN]
 refine ⟨fun c1 => ?_,fun c1 => ?_⟩
 ·have ek:IntKind.i64.wrap ((k:Int)+1)=((k+1:Nat):Int):=by rw [za (by unfold I64;omega)];omega
  refine ⟨c1,by simp [Seg.c],?_⟩
  refine AllocQ.i0 fun b hb => ?_
  simp only [Seg.c,↓vcPre,↓z0,↓reduceIte,vcPost,vcStd,Nat.reduceEqDiff,reduceCtorEq,Nat.reduceAdd,Nat.reduceLeDiff,Int.reduceLT,Int.reduceLE,↓u_setN]
  have key:∀ (E:Env) (T:Store) (n' rr':Env→Store→Prop) (x':Nat→Env→Store→Prop),T b=some (.box (shortS a.path[k]).c)→Store.sub s T →
   (∀ v' s',Store.sub τ s'→Own 2 τ (((a.path.take (k+1)).map shortS).map Seg.c) v' s'→n' [(1,.ptr i 0),(2,.ptr j 0),(3,v'),(4,.int .i64 (k:Int))] s') →
   bwp Tryz.prog Tsd.t13_34 ((1,.ptr i 0)::(2,.ptr j 0)::(3,v)::(4,.int .i64 (k:Int))::(5,.ptr b 0)::E) T n' rr' x':=by
   intro E T n' rr' x' hT hsT hn
   simp only [Tsd.t13_34]
   simp only [hT,Seg.c,↓vcPre,↓z0,↓reduceIte,vcPost,vcStd,Nat.reduceEqDiff,reduceCtorEq,Nat.reduceAdd,Nat.reduceLeDiff,Int.reduceLT,Int.reduceLE,↓u_setN]
   refine AllocQ.i0 fun g hg => ?_
   simp only [↓vcPre,↓z0,↓reduceIte,vcPost,vcStd,Nat.reduceEqDiff,reduceCtorEq,Nat.reduceAdd,Nat.reduceLeDiff,Int.reduceLT,Int.reduceLE,↓u_setN]
   have hsg:=Store.sub_set T g (.arr 2 [[.int .i64 (shortS a.path[k]).kind,.sl 1 ((shortS a.path[k]).ls.map cU)]]) hg
   refine Own.app (τ:=τ) (Store.sub_trans hs (Store.sub_trans hsT hsg)) (ho.mono (Store.sub_trans hsT hsg)) (zj (Store.set_same _ _ _) rfl) (by simp;omega) fun v' s' hs' ho'' => ?_
   refine hn v' s' hs' ?_
   simp only [List.take_add_one,List.getElem?_eq_getElem c1,Option.toList_some,List.map_append,List.map_cons,List.map_nil]
   exact ho''
  refine ⟨fun g1=>⟨by simp only [Option.getD_some];omega,?_⟩,fun g1 => ?_⟩
  ·refine key _ _ _ _ _ ?_ ?_ fun v' s' h1 h2 => ?_
   ·rw [Store.set_same]
    simp only [shortS,Seg.c,List.map_take];rfl
   ·rw [Store.set_set,Store.set_set];exact Store.sub_set _ _ _ hb
   simp only [ek,↓vcPre,↓z0,↓reduceIte,vcPost,vcStd,Nat.reduceEqDiff,reduceCtorEq,Nat.reduceAdd,Nat.reduceLeDiff,Int.reduceLT,Int.reduceLE,↓u_setN]
   exact NextQ.to (k+1,v',s') rfl (Store.sub_refl _) (by simp only;omega) ⟨by simp only;omega,h1,h2⟩
  ·refine key _ _ _ _ _ ?_ ?_ fun v' s' h1 h2 => ?_
   ·rw [Store.set_same]
    have:a.path[k].ls.take 6=a.path[k].ls:=List.take_of_length_le (by omega)
    simp only [shortS,Seg.c,this]
   ·rw [Store.set_set];exact Store.sub_set _ _ _ hb
   simp only [ek,↓vcPre,↓z0,↓reduceIte,vcPost,vcStd,Nat.reduceEqDiff,reduceCtorEq,Nat.reduceAdd,Nat.reduceLeDiff,Int.reduceLT,Int.reduceLE,↓u_setN]
   exact NextQ.to (k+1,v',s') rfl (Store.sub_refl _) (by simp only;omega) ⟨by simp only;omega,h1,h2⟩
 ·have hkl:a.path.take k=a.path:=List.take_of_length_le (by omega)
  rw [hkl] at ho
  have hv:v.isTup=false∧v.cells=[v]:=by
   rcases ho with ⟨_,rfl⟩ | ⟨g,rfl,_,_⟩ <;> exact ⟨rfl,rfl⟩
  have fin:∀ X Y:Obj,∀ vv:List AV,Y = .box vv→vv=[.int .i64 a.org,v,.int .u32 a.nxt,.bool a.hm,.int .u32 a.med,.bool a.hp,.int .u32 a.prf,.bool a.atm,.sl 1 ((a.cms.take 34).map cU)]→rr [(2,.ptr j 0)] ((s.set i X).set j Y):=by
   rintro X Y vv rfl rfl
   refine hret _ v (z6 (z6 (Store.sub_trans q1 hs) hσi) hσj) ?_ (Store.set_same _ _ _)
   rcases ho.weak q1 with h | ⟨g,h1,h2,h3⟩
   ·exact .inl h
   ·refine .inr ⟨g,h1,h2,?_⟩
    have hgi:¬ g=i:=fun e=>by rw [e,hsi] at h3;cases h3
    have hgj:¬ g=j:=fun e=>by rw [e,hsj] at h3;cases h3
    rw [Store.set_ne _ _ hgj,Store.set_ne _ _ hgi];exact h3
  simp only [hv.1,hv.2,hsi,hsj,hij,hji,At.c,hz,↓vcPre,↓z0,↓reduceIte,vcPost,vcStd,Nat.reduceEqDiff,reduceCtorEq,Nat.reduceAdd,Nat.reduceLeDiff,Int.reduceLT,Int.reduceLE,↓u_setN]
  refine ⟨fun g1=>⟨by simp only [Option.getD_some];omega,?_⟩,fun g1 => ?_⟩
  ·rw [zz _ _ (by simp [hz]),y7,Store.set_set]
   refine fin _ _ _ rfl ?_
   simp only [List.map_take];rfl
  ·rw [zz _ _ (by simp [hz]),y7]
   have:a.cms.take 34=a.cms:=List.take_of_length_le (by omega)
   exact fin _ _ _ rfl (by rw [this])
theorem EndQ.aggOwn {esz:Nat} {slots:List RS} {Q:AV→Store→Prop} {e:Env} {σ τ:Store} {L:List (List AV)} {cells:List AV} (k:Nat) {v:AV} (h1:e.res τ slots=some (.agg cells)) (hk:cells[k]? = some v) (ho:Own esz σ L v τ) (hs:Store.sub σ τ)
 (hf:∀ c ∈ cells.set k (.sl esz L),c.flat=true) (hQ:Q (.agg (cells.set k (.sl esz L))) σ) : @EndQ e τ ⟨slots,Q⟩:=by
 unfold EndQ
 rcases ho with ⟨rfl,rfl⟩ | ⟨g,rfl,hg,hh⟩
 ·exact ⟨_,h1,Weak.agg (WeakL.nil k esz hk (WeakL.forget hs (WeakL.pure ⟨hf,hQ⟩)))⟩
 ·refine ⟨_,h1,Weak.agg (WeakL.freeze k hk hh (by omega) (WeakL.forget (σ':=σ) (fun i o hi => ?_) (WeakL.pure ?_)))⟩
  ·rw [Store.del_ne _ (fun e=>by subst e;rw [hg] at hi;cases hi)];exact hs i o hi
  ·simp only [List.drop_zero,List.take_length];exact ⟨hf,hQ⟩
theorem c13 (a:At):Pur Tryz.prog 13 [.agg a.c] (.agg (shortA a).c):=by
 intro σ
 refine zf Tsd.F13 (by simp [Tsd.F13,Fn.mkX]) ?_
 simp only [Tsd.F13,Fn.mkX,Tsd.b13]
 simp only [At.c,↓vcPre,↓z0,↓reduceIte,vcPost,vcStd,Nat.reduceEqDiff,reduceCtorEq,Nat.reduceAdd,Nat.reduceLeDiff,Int.reduceLT,Int.reduceLE,↓u_setN]
 refine AllocQ.i0 fun i hi => ?_
 simp only [At.c,↓vcPre,↓z0,↓reduceIte,vcPost,vcStd,Nat.reduceEqDiff,reduceCtorEq,Nat.reduceAdd,Nat.reduceLeDiff,Int.reduceLT,Int.reduceLE,↓u_setN]
 refine AllocQ.i1 fun j hj1 hj2 hj => ?_
 simp only [hj1,hj2,z8x,↓vcPre,↓z0,↓reduceIte,vcPost,vcStd,Nat.reduceEqDiff,reduceCtorEq,Nat.reduceAdd,Nat.reduceLeDiff,Int.reduceLT,Int.reduceLE,↓u_setN]
 have key:∀ (E:Env) (t:Store) (n:Env→Store→Prop) (x:Nat→Env→Store→Prop) (z:List AV),z.length=9→t i=some (.box ({ a with path:=a.path.take 18 }:At).c)→t j=some (.box z)→Store.sub σ t →
  bwp Tryz.prog Tsd.t13_3 ((1,.ptr i 0)::(2,.ptr j 0)::E) t n (fun e s => @EndQ e s ⟨Tsd.F13.slots,fun r s=>s=σ∧r = .agg (shortA a).c⟩) x:=by
  intro E t n x z hz h1 h2 h3
  refine z4f E { a with path:=a.path.take 18 } (by simp;omega) h1 h2 hz hj2 hi hj h3 ?_
  intro s v hs ho hsj
  refine EndQ.aggOwn 1 (L:=((a.path.take 18).map shortS).map Seg.c) (v:=v) (cells:=[.int .i64 a.org,v,.int .u32 a.nxt,.bool a.hm,.int .u32 a.med,.bool a.hp,.int .u32 a.prf,.bool a.atm,.sl 1 ((a.cms.take 34).map cU)]) ?_ rfl ho hs ?_ ⟨rfl,rfl⟩
  ·show Env.res [(2,AV.ptr j 0)] s [RS.c 2 9 true]=_
   simp only [hsj,↓vcPre,↓z0,↓reduceIte,vcPost,vcStd,Nat.reduceEqDiff,reduceCtorEq,Nat.reduceAdd,Nat.reduceLeDiff,Int.reduceLT,Int.reduceLE,↓u_setN]
  ·intro c hc
   simp at hc
   rcases hc with rfl | rfl | rfl | rfl | rfl | rfl | rfl | rfl | rfl <;> rfl
 refine ⟨fun g1=>⟨by simp only [Option.getD_some];omega,?_⟩,fun g1 => ?_⟩
 ·refine key _ _ _ _ _ ?_ ?_ (by rw [Store.set_ne _ _ hj1,Store.set_same]) (z6 (zk hi hj hj1) hi)
  ·rfl
  ·rw [Store.set_same];rfl
 ·have:a.path.take 18=a.path:=List.take_of_length_le (by omega)
  refine key _ _ _ _ _ ?_ ?_ (Store.set_same _ _ _) (zk hi hj hj1)
  ·rfl
  ·rw [Store.set_ne _ _ hj2,Store.set_same,this];rfl
theorem z68:zeroAt.ok:=⟨by simp [zeroAt],by simp [zeroAt],by simp [zeroAt]⟩
end Go.Am
namespace Go.Am
theorem WeakL.freezeIn {as0:List AV} {σ:Store} {Q:List AV→Store→Prop} (k i j:Nat) {e2 id esz off len:Nat} {es cs:List (List AV)} (ha:as0[k]? = some (.sl e2 es)) (hi:i<es.length) (hj:j<es[i].length) (hc:es[i][j] = .os id esz off len)
 (hσ:σ id=some (.arr esz cs)) (hle:off+len≤cs.length)
 (h:WeakL (as0.set k (.sl e2 (es.set i (es[i].set j (.sl esz ((cs.drop off).take len)))))) (σ.del id) Q):WeakL as0 σ Q:=fun G w vs hs hr=>by
 obtain ⟨v,hv,hvr⟩:=hr.get k _ ha
 have key:∃ G',Ext G σ w G' (σ.del id) w∧Sim G' (σ.del id) w∧VRel G' w (.sl e2 (es.set i (es[i].set j (.sl esz ((cs.drop off).take len))))) v:=by
  cases hvr with
  | sl0=>simp at hi
  | sl f hb hne hcap hl hf hcell hvv =>
    have h0:=hvv i j hi hj
    rw [hc] at h0
    obtain ⟨G',h1,h2,h3⟩:=xe hs hσ hle h0
    refine ⟨G',h1,h2,?_⟩
    have hmem:∀ x ∈ es.set i (es[i].set j (.sl esz ((cs.drop off).take len))),x ∈ es∨x=es[i].set j (.sl esz ((cs.drop off).take len)):=fun x hx=>List.mem_or_eq_of_mem_set hx
    have hlen:(es.set i (es[i].set j (.sl esz ((cs.drop off).take len)))).length=es.length:=List.length_set
    have:=VRel.sl (G:=G') (w:=w) (esz:=e2) (es:=es.set i (es[i].set j (.sl esz ((cs.drop off).take len)))) f (h1.I _ hb) (by intro e;rw [e] at hlen;simp at hlen;omega) (by rw [hlen];exact hcap)
     (fun x hx=>by
       rcases hmem x hx with h | rfl
       ·exact hl x h
       ·rw [List.length_set];exact hl _ (List.getElem_mem hi))
     (fun x hx c hcx=>by
       rcases hmem x hx with h | rfl
       ·exact hf x h c hcx
       ·rcases List.mem_or_eq_of_mem_set hcx with h | rfl
        ·exact hf _ (List.getElem_mem hi) c h
        ·rfl)
     (fun a b hA hB=>hcell a b (by rw [←hlen];exact hA) hB)
     (fun a b hA hB=>by
       have hA':a<es.length:=by rw [←hlen];exact hA
       by_cases hai:a=i
       ·subst hai
        simp only [List.getElem_set_self] at hB ⊢
        by_cases hbj:b=j
        ·subst hbj
         simp only [List.getElem_set_self];exact h3
        ·rw [List.getElem_set_ne (fun e=>hbj e.symm)]
         exact h1.vrel hs (hvv a b hA' (by simpa using hB))
       ·simp only [List.getElem_set_ne (fun e=>hai e.symm)] at hB ⊢
        exact h1.vrel hs (hvv a b hA' hB))
    rw [hlen] at this
    exact this
 obtain ⟨G',h1,h2,h3⟩:=key
 obtain ⟨G'',as',σ',g1,g2,g3,g4⟩:=h G' w vs h2 (Rels.of_get (by simpa using hr.length) fun a ha' hi'=>by
  by_cases hik:a=k
  ·subst hik
   rw [List.getElem?_eq_getElem hi'] at hv;cases hv
   simp;exact h3
  ·rw [List.getElem_set_ne (Ne.symm hik)]
   have hi2:a<as0.length:=by simpa using ha'
   obtain ⟨u,hu,hur⟩:=hr.get a _ (List.getElem?_eq_getElem hi2)
   rw [List.getElem?_eq_getElem hi'] at hu;cases hu
   exact h1.vrel hs hur)
 exact ⟨G'',as',σ',h1.trans g1,g2,g3,g4⟩
end Go.Am
namespace Go.Am
open Go.Proofs Go.Sort
def delAll (s:Store) (gs:List Nat):Store:=gs.foldl Store.del s
theorem z0k {s:Store}:∀ {gs:List Nat} {x:Nat},x ∉ gs→delAll s gs x=s x
 | [],_,_=>rfl
 | g::gs,x,h=>by
   simp only [List.mem_cons,not_or] at h
   show delAll (s.del g) gs x=s x
   rw [z0k h.2,Store.del_ne _ h.1]
def segO (x:Seg) (g:Nat):List AV:=[.int .i64 x.kind,.os g 1 0 x.ls.length]
theorem z66 {Q:List AV→Store→Prop}:∀ (p:List Seg) (gs:List Nat) (pre:List (List AV)) (s:Store),gs.length=p.length→gs.Nodup →
 (∀ i (h:i<p.length) (h':i<gs.length),s gs[i]=some (.arr 1 (p[i].ls.map cU)))→WeakL [.sl 2 (pre++p.map Seg.c)] (delAll s gs) Q→WeakL [.sl 2 (pre++List.zipWith segO p gs)] s Q
 | [],[],pre,s,_,_,_,h=>h
 | [],_::_,_,_,hl,_,_,_=>by simp at hl
 | _::_,[],_,_,hl,_,_,_=>by simp at hl
 | x::p,g::gs,pre,s,hl,hn,hs,h=>by
   have h0:=hs 0 (by simp) (by simp)
   simp only [List.getElem_cons_zero] at h0
   rw [List.nodup_cons] at hn
   refine WeakL.freezeIn 0 pre.length 1 (id:=g) (esz:=1) (off:=0) (len:=x.ls.length) (cs:=x.ls.map cU) (es:=pre++List.zipWith segO (x::p) (g::gs)) rfl (by simp) (by simp [segO]) (by simp [segO]) h0 (by simp) ?_
   have e:(pre++List.zipWith segO (x::p) (g::gs)).set pre.length ((pre++List.zipWith segO (x::p) (g::gs))[pre.length]'(by simp) |>.set 1 (.sl 1 (((x.ls.map cU).drop 0).take x.ls.length)))=(pre++[x.c])++List.zipWith segO p gs:=by
    have ht:List.take x.ls.length (x.ls.map cU)=x.ls.map cU:=List.take_of_length_le (by simp)
    simp [segO,Seg.c,ht]
   rw [e]
   refine z66 p gs (pre++[x.c]) (s.del g) (by simpa using hl) hn.2 (fun i hi hi' => ?_) ?_
   ·rw [Store.del_ne _ (fun e=>hn.1 (by rw [←e];exact List.getElem_mem hi'))]
    have:=hs (i+1) (by simpa using hi) (by simpa using hi')
    simpa using this
   ·simpa [delAll] using h
def OwnP (τ:Store) (p:List Seg) (v:AV) (s:Store):Prop :=
 ∃ gs:List Nat,gs.length=p.length∧gs.Nodup∧(∀ g ∈ gs,τ g=none)∧(∀ i (h:i<p.length) (h':i<gs.length),s gs[i]=some (.arr 1 (p[i].ls.map cU)))∧Own 2 τ (List.zipWith segO p gs) v s
theorem OwnP.nil {τ s:Store}:OwnP τ [] .nils s:=⟨[],rfl,.nil,by simp,fun i h=>by simp at h,.nil⟩
theorem OwnP.app {bytes:Nat} {τ s0 s:Store} {p:List Seg} {x:Seg} {j:Nat} {v wv:AV} {K:AV→Store→Prop} (hτ:Store.sub τ s0) (h0:Store.sub s0 s) (ho:OwnP τ p v s0) (hj:s j=some (.arr 1 (x.ls.map cU))) (hj0:s0 j=none)
 (hw:slc s 2 wv=some [segO x j]) (hsz:(p.length+1)*bytes≤140737488355328) (h:∀ v' s',Store.sub τ s'→OwnP τ (p++[x]) v' s'→K v' s'):appwp 2 bytes v wv s K:=by
 obtain ⟨gs,hl,hn,hg,hi,ho⟩:=ho
 have hτj:τ j=none:=zi hτ hj0
 have hjg:j ∉ gs:=fun e=>by
  obtain ⟨i,hi',rfl⟩:=List.getElem_of_mem e
  rw [hi i (by omega) hi'] at hj0;cases hj0
 have hz:(List.zipWith segO p gs).length=p.length:=by simp [hl]
 have fin:∀ (τ2:Store) v' s',Store.sub τ τ2→Store.sub τ2 s'→τ2 j=some (.arr 1 (x.ls.map cU))→(∀ i (h:i<p.length) (h':i<gs.length),τ2 gs[i]=some (.arr 1 (p[i].ls.map cU)))→Own 2 τ2 (List.zipWith segO p gs++[segO x j]) v' s'→K v' s':=by
  intro τ2 v' s' k1 k2 k3 k4 k5
  refine h v' s' (Store.sub_trans k1 k2) ⟨gs++[j],by simp [hl],?_,?_,?_,?_⟩
  ·rw [List.nodup_append]
   refine ⟨hn,by simp,fun a ha b hb => ?_⟩
   simp only [List.mem_singleton] at hb
   subst hb
   exact fun e=>hjg (e ▸ ha)
  ·intro g hgm
   rcases List.mem_append.1 hgm with h | h
   ·exact hg g h
   ·simp only [List.mem_singleton] at h;subst h;exact hτj
  ·intro i hA hB
   by_cases hip:i<p.length
   ·rw [List.getElem_append_left (by omega),List.getElem_append_left hip]
    exact k2 _ _ (k4 i hip (by omega))
   ·have hip':i=p.length:=by simp at hA;omega
    subst hip'
    have e1:(gs++[j])[p.length]'hB=j:=by
     rw [List.getElem_append_right (by omega)];simp
    have e2:(p++[x])[p.length]'hA=x:=by
     rw [List.getElem_append_right (by omega)];simp
    rw [e1,e2];exact k2 _ _ k3
  ·rw [List.zipWith_append (by omega)]
   exact k5.weak k1
 rcases ho with ⟨hL,rfl⟩ | ⟨g,rfl,hgg,hh⟩
 ·refine Own.app (τ:=s) (L:=List.zipWith segO p gs) (Store.sub_refl _) (.inl ⟨hL,rfl⟩) hw (by rw [hz];exact hsz) fun v' s' hs ho' => ?_
  exact fin s v' s' (Store.sub_trans hτ h0) hs hj (fun i h h'=>h0 _ _ (hi i h h')) ho'
 ·have hgi:∀ i (h':i<gs.length),gs[i]≠g:=fun i h' e=>by
   have:=hi i (by omega) h'
   rw [e,hh] at this;cases this
  have hjg':j≠g:=fun e=>by rw [e,hh] at hj0;cases hj0
  have hsd:Store.sub (s.del g) s:=fun y o hy=>by
   by_cases hyg:y=g
   ·subst hyg;simp at hy
   ·rw [Store.del_ne _ hyg] at hy;exact hy
  refine Own.app (τ:=s.del g) (L:=List.zipWith segO p gs) hsd (.inr ⟨g,rfl,by simp,h0 _ _ hh⟩) hw (by rw [hz];exact hsz) fun v' s' hs ho' => ?_
  refine fin (s.del g) v' s' (fun y o hy => ?_) hs (by rw [Store.del_ne _ hjg'];exact hj) (fun i h h'=>by rw [Store.del_ne _ (hgi i h')];exact h0 _ _ (hi i h h')) ho'
  rw [Store.del_ne _ (fun e=>by subst e;rw [hgg] at hy;cases hy)]
  exact h0 _ _ (hτ _ _ hy)
theorem EndQ.ownP {slots:List RS} {Q:AV→Store→Prop} {e:Env} {σ τ:Store} {p:List Seg} {v:AV} (h1:e.res τ slots=some v) (ho:OwnP σ p v τ) (hs:Store.sub σ τ) (h4:Q (.sl 2 (p.map Seg.c)) σ) : @EndQ e τ ⟨slots,Q⟩:=by
 obtain ⟨gs,hl,hn,hg,hi,ho⟩:=ho
 rcases ho with ⟨h0,rfl⟩ | ⟨g,rfl,hgg,hh⟩
 ·have:p=[]:=by
   have:=congrArg List.length h0
   simp [hl] at this
   exact this
  subst this
  exact EndQ.nil1 2 σ h1 hs h4
 ·unfold EndQ
  refine ⟨_,h1,Weak.of_one (WeakL.freeze 0 rfl hh (by omega) ?_)⟩
  simp only [List.set_cons_zero,List.drop_zero,List.take_length]
  have hgi:∀ i (h':i<gs.length),gs[i]≠g:=fun i h' e=>by
   have:=hi i (by omega) h'
   rw [e,hh] at this;cases this
  refine z66 (Q:=_) p gs [] (τ.del g) hl hn (fun i h h'=>by rw [Store.del_ne _ (hgi i h')];exact hi i h h') ?_
  refine WeakL.forget (σ':=σ) (fun x o hx => ?_) (WeakL.pure ⟨_,rfl,h4⟩)
  have h1:x ∉ gs:=fun e=>by rw [hg x e] at hx;cases hx
  rw [z0k h1,Store.del_ne _ (fun e=>by subst e;rw [hgg] at hx;cases hx)]
  exact hs x o hx
end Go.Am
namespace Go.Am
open Go.Proofs Go.Sort
theorem WeakE.frzArr {e:Env} {σ:Store} {Q:Env→Store→Prop} (g i j:Nat) {id esz off len e2:Nat} {cs es:List (List AV)} {c:List AV} (hg:σ g=some (.arr e2 es)) (hi:es[i]? = some c) (hj:c[j]? = some (.os id esz off len)) (hσ:σ id=some (.arr esz cs)) (hgi:¬ g=id) (hle:off+len≤cs.length)
 (h:WeakE e ((σ.del id).set g (.arr e2 (es.set i (c.set j (.sl esz ((cs.drop off).take len)))))) Q):WeakE e σ Q:=fun G w vs hs hv=>by
 obtain ⟨b,base,hb,ho⟩:=hs.used g _ hg
 obtain ⟨hi',hi2⟩:=List.getElem?_eq_some_iff.1 hi
 obtain ⟨hj',hj2⟩:=List.getElem?_eq_some_iff.1 hj
 subst hi2
 cases ho with
 | arr hh hsz hl hf hvv =>
   rename_i ccs ty
   have h0:=hvv i j hi' hj'
   rw [hj2] at h0
   obtain ⟨G',h1,h2,h3⟩:=xe hs hσ hle h0
   have hp':(σ.del id) g=some (.arr e2 es):=by rw [Store.del_ne _ hgi];exact hg
   have hmem:∀ x ∈ es.set i (es[i].set j (.sl esz ((cs.drop off).take len))),x ∈ es∨x=es[i].set j (.sl esz ((cs.drop off).take len)):=fun x hx=>List.mem_or_eq_of_mem_set hx
   obtain ⟨h4,h5⟩:=h2.obj (o' := .arr e2 (es.set i (es[i].set j (.sl esz ((cs.drop off).take len))))) hp' (fun b' base' hb' ho'=>by
    have e1:=h1.ρ _ _ hb
    rw [hb'] at e1;cases e1
    refine .arr hh (by rw [List.length_set];exact hsz) (fun x hx => ?_) (fun x hx c hcx => ?_) (fun a d hA hB => ?_)
    ·rcases hmem x hx with h | rfl
     ·exact hl x h
     ·rw [List.length_set];exact hl _ (List.getElem_mem hi')
    ·rcases hmem x hx with h | rfl
     ·exact hf x h c hcx
     ·rcases List.mem_or_eq_of_mem_set hcx with h | rfl
      ·exact hf _ (List.getElem_mem hi') c h
      ·rfl
    ·have hA':a<es.length:=by simpa using hA
     by_cases hai:a=i
     ·subst hai
      simp only [List.getElem_set_self] at hB ⊢
      by_cases hbj:d=j
      ·subst hbj
       simp only [List.getElem_set_self];exact h3
      ·rw [List.getElem_set_ne (fun e=>hbj e.symm)]
       exact h1.vrel hs (hvv a d hA' (by simpa using hB))
     ·simp only [List.getElem_set_ne (fun e=>hai e.symm)] at hB ⊢
      exact h1.vrel hs (hvv a d hA' hB))
   obtain ⟨G2,e2',σ2,g1,g2,g3,g4⟩:=h G' w vs h4 (fun u v hu=>by
    obtain ⟨y,hy,hyr⟩:=hv u v hu;exact ⟨y,hy,h1.vrel hs hyr⟩)
   exact ⟨G2,e2',σ2,(h1.trans h5).trans g1,g2,g3,g4⟩
theorem z3l {e:Env} {Q:Env→Store→Prop} {g:Nat} {τ:Store}:∀ (p:List Seg) (gs:List Nat) (pre:List (List AV)) (s:Store),gs.length=p.length→gs.Nodup→(∀ x ∈ gs,τ x=none)→g ∉ gs→τ g=none→Store.sub τ s →
 (∀ i (h:i<p.length) (h':i<gs.length),s gs[i]=some (.arr 1 (p[i].ls.map cU)))→s g=some (.arr 2 (pre++List.zipWith segO p gs))→(∀ s',Store.sub τ s'→s' g=some (.arr 2 (pre++p.map Seg.c))→WeakE e s' Q)→WeakE e s Q
 | [],[],pre,s,_,_,_,_,_,hs,_,hg,h=>h s hs hg
 | [],_::_,_,_,hl,_,_,_,_,_,_,_,_=>by simp at hl
 | _::_,[],_,_,hl,_,_,_,_,_,_,_,_=>by simp at hl
 | x::p,y::gs,pre,s,hl,hn,hτ,hgn,hτg,hs,hi,hg,h=>by
   have h0:=hi 0 (by simp) (by simp)
   simp only [List.getElem_cons_zero] at h0
   rw [List.nodup_cons] at hn
   have hgy:¬ g=y:=fun e=>hgn (by rw [e];simp)
   have hgt:g ∉ gs:=fun e=>hgn (by simp [e])
   refine WeakE.frzArr g pre.length 1 (c:=segO x y) hg (by simp) rfl h0 hgy (by simp) ?_
   have hτy:=hτ y (by simp)
   refine z3l p gs (pre++[x.c]) _ (by simpa using hl) hn.2 (fun z hz=>hτ z (by simp [hz])) hgt hτg (z6 (sub_del hs hτy) hτg) (fun i hA hB => ?_) ?_ fun s' h1 h2=>h s' h1 (by rw [h2];simp)
   ·have h1:¬ gs[i]=g:=fun e=>hgt (by rw [←e];exact List.getElem_mem hB)
    have h2:¬ gs[i]=y:=fun e=>hn.1 (by rw [←e];exact List.getElem_mem hB)
    rw [Store.set_ne _ _ h1,Store.del_ne _ h2]
    have:=hi (i+1) (by simpa using hA) (by simpa using hB)
    simpa using this
   ·rw [Store.set_same]
    have ht:List.take x.ls.length (x.ls.map cU)=x.ls.map cU:=List.take_of_length_le (by simp)
    simp [segO,Seg.c,ht]
theorem WeakE.ownP {e:Env} {τ σ:Store} {Q:Env→Store→Prop} {p:List Seg} {v:AV} (ho:OwnP τ p v σ) (hs:Store.sub τ σ) (h:∀ σ',Store.sub τ σ'→Own 2 τ (p.map Seg.c) v σ'→WeakE e σ' Q):WeakE e σ Q:=by
 obtain ⟨gs,hl,hn,hg,hi,ho⟩:=ho
 rcases ho with ⟨h0,rfl⟩ | ⟨g,rfl,hgg,hh⟩
 ·have:p=[]:=by
   have:=congrArg List.length h0
   simp [hl] at this
   exact this
  subst this
  exact h σ hs .nil
 ·have hgi:g ∉ gs:=fun e=>by
   obtain ⟨i,hi',rfl⟩:=List.getElem_of_mem e
   rw [hi i (by omega) hi'] at hh;cases hh
  refine z3l p gs [] σ hl hn hg hgi hgg hs hi hh fun s' h1 h2=>h s' h1 (.inr ⟨g,by simp [hl],hgg,by simpa using h2⟩)
end Go.Am
namespace Go.Am
open Go.Proofs Go.Sort
theorem c79 (p:List Seg) (h:p.length≤1000000) (ho:∀ s ∈ p,s.ok):Pur Tryz.prog 79 [.sl 2 (p.map Seg.c)] (.sl 2 (p.map Seg.c)):=by
 intro σ
 refine zf Tst.F79 (by simp [Tst.F79,Fn.mkX]) ?_
 simp only [Tst.F79,Fn.mkX,Tst.b79]
 simp only [↓vcPre,↓z0,↓reduceIte,vcPost,vcStd,Nat.reduceEqDiff,reduceCtorEq,Nat.reduceAdd,Nat.reduceLeDiff,Int.reduceLT,Int.reduceLE,↓u_setN]
 refine LoopQ.inv (S:=Nat×AV×Store) (fun q=>[(0,.sl 2 (p.map Seg.c)),(3,q.2.1),(4,.int .i64 (q.1:Int))]) (fun q=>q.2.2)
  (fun q=>q.1≤p.length∧Store.sub σ q.2.2∧OwnP σ (p.take q.1) q.2.1 q.2.2) (fun q=>p.length+1 - q.1) (0,.nils,σ) rfl (Store.sub_refl _) ⟨by simp only;omega,Store.sub_refl _,OwnP.nil⟩ ?_
 rintro ⟨k,v,s⟩ ⟨hk,hs,ho'⟩
 simp only at hk hs ho'
 simp only [↓vcPre,↓z0,↓reduceIte,vcPost,vcStd,Nat.reduceEqDiff,reduceCtorEq,Nat.reduceAdd,Nat.reduceLeDiff,Int.reduceLT,Int.reduceLE,↓u_setN]
 refine ⟨fun c1 => ?_,fun c1 => ?_⟩
 ·have ek:IntKind.i64.wrap ((k:Int)+1)=((k+1:Nat):Int):=by rw [za (by unfold I64;omega)];omega
  have hx:=ho _ (List.getElem_mem c1)
  unfold Seg.ok at hx
  refine ⟨c1,c1,by simp [Seg.c],?_⟩
  simp only [Seg.c,↓vcPre,↓z0,↓reduceIte,vcPost,vcStd,Nat.reduceEqDiff,reduceCtorEq,Nat.reduceAdd,Nat.reduceLeDiff,Int.reduceLT,Int.reduceLE,↓u_setN]
  have hroom:(([]:List (List AV)).length+(p[k].ls.map cU).length)*4≤140737488355328:=by simp;omega
  refine ⟨?_,?_⟩
  ·refine AllocQ.i0 fun i hi => ?_
   simp only [↓vcPre,↓z0,↓reduceIte,vcPost,vcStd,Nat.reduceEqDiff,reduceCtorEq,Nat.reduceAdd,Nat.reduceLeDiff,Int.reduceLT,Int.reduceLE,↓u_setN]
   refine ym (zj (Store.set_same _ _ _) rfl) xy hroom fun j hj => ?_
   simp only [↓vcPre,↓z0,↓reduceIte,vcPost,vcStd,Nat.reduceEqDiff,reduceCtorEq,Nat.reduceAdd,Nat.reduceLeDiff,Int.reduceLT,Int.reduceLE,↓u_setN]
   have hji:j≠i:=fun e=>by subst e;rw [Store.set_same] at hj;cases hj
   have hj0:s j=none:=by rw [Store.set_ne _ _ hji] at hj;exact hj
   have hsub:Store.sub s (((s.set i (Obj.arr 1 [])).del i).set j (Obj.arr 1 (List.map cU p[k].ls))):=fun y o hy=>by
    have h1:y≠i:=fun e=>by subst e;rw [hi] at hy;cases hy
    have h2:y≠j:=fun e=>by subst e;rw [hj0] at hy;cases hy
    rw [Store.set_ne _ _ h2,Store.del_ne _ h1,Store.set_ne _ _ h1];exact hy
   have hjs:(((s.set i (Obj.arr 1 [])).del i).set j (Obj.arr 1 (List.map cU p[k].ls))) j=some (.arr 1 (p[k].ls.map cU)):=Store.set_same _ _ _
   refine AllocQ.i0 fun b hb => ?_
   simp only [Nat.zero_add,↓vcPre,↓z0,↓reduceIte,vcPost,vcStd,Nat.reduceEqDiff,reduceCtorEq,Nat.reduceAdd,Nat.reduceLeDiff,Int.reduceLT,Int.reduceLE,↓u_setN]
   refine OwnP.app (τ:=σ) (s0:=s) (x:=p[k]) (j:=j) hs (Store.sub_trans hsub (Store.sub_set _ b _ hb)) ho' (Store.sub_set _ b _ hb _ _ hjs) hj0 (zj (Store.set_same _ _ _) rfl) (by simp;omega) fun v' s' hs' ho'' => ?_
   rw [ek]
   refine NextQ.to (k+1,v',s') rfl (Store.sub_refl _) (by simp only;omega) ⟨by simp only;omega,hs',?_⟩
   simp only [List.take_add_one,List.getElem?_eq_getElem c1,Option.toList_some]
   exact ho''
  ·refine AllocQ.i0 fun i hi => ?_
   simp only [↓vcPre,↓z0,↓reduceIte,vcPost,vcStd,Nat.reduceEqDiff,reduceCtorEq,Nat.reduceAdd,Nat.reduceLeDiff,Int.reduceLT,Int.reduceLE,↓u_setN]
   refine ⟨⟨by simp [Seg.c],?_⟩,?_⟩
   ·simp only [Seg.c,↓vcPre,↓z0,↓reduceIte,vcPost,vcStd,Nat.reduceEqDiff,reduceCtorEq,Nat.reduceAdd,Nat.reduceLeDiff,Int.reduceLT,Int.reduceLE,↓u_setN]
    refine ym (zj (Store.set_same _ _ _) rfl) xy hroom fun j hj => ?_
    simp only [↓vcPre,↓z0,↓reduceIte,vcPost,vcStd,Nat.reduceEqDiff,reduceCtorEq,Nat.reduceAdd,Nat.reduceLeDiff,Int.reduceLT,Int.reduceLE,↓u_setN]
    have hji:j≠i:=fun e=>by subst e;rw [Store.set_same] at hj;cases hj
    have hj0:s j=none:=by rw [Store.set_ne _ _ hji] at hj;exact hj
    have hsub:Store.sub s (((s.set i (Obj.arr 1 [])).del i).set j (Obj.arr 1 (List.map cU p[k].ls))):=fun y o hy=>by
     have h1:y≠i:=fun e=>by subst e;rw [hi] at hy;cases hy
     have h2:y≠j:=fun e=>by subst e;rw [hj0] at hy;cases hy
     rw [Store.set_ne _ _ h2,Store.del_ne _ h1,Store.set_ne _ _ h1];exact hy
    have hjs:(((s.set i (Obj.arr 1 [])).del i).set j (Obj.arr 1 (List.map cU p[k].ls))) j=some (.arr 1 (p[k].ls.map cU)):=Store.set_same _ _ _
    refine AllocQ.i0 fun b hb => ?_
    simp only [Nat.zero_add,↓vcPre,↓z0,↓reduceIte,vcPost,vcStd,Nat.reduceEqDiff,reduceCtorEq,Nat.reduceAdd,Nat.reduceLeDiff,Int.reduceLT,Int.reduceLE,↓u_setN]
    refine OwnP.app (τ:=σ) (s0:=s) (x:=p[k]) (j:=j) hs (Store.sub_trans hsub (Store.sub_set _ b _ hb)) ho' (Store.sub_set _ b _ hb _ _ hjs) hj0 (zj (Store.set_same _ _ _) rfl) (by simp;omega) fun v' s' hs' ho'' => ?_
    rw [ek]
    refine NextQ.to (k+1,v',s') rfl (Store.sub_refl _) (by simp only;omega) ⟨by simp only;omega,hs',?_⟩
    simp only [List.take_add_one,List.getElem?_eq_getElem c1,Option.toList_some]
    exact ho''
   ·refine ym (zj (Store.set_same _ _ _) rfl) xy hroom fun j hj => ?_
    refine ⟨by simp [Seg.c],?_⟩
    simp only [Seg.c,↓vcPre,↓z0,↓reduceIte,vcPost,vcStd,Nat.reduceEqDiff,reduceCtorEq,Nat.reduceAdd,Nat.reduceLeDiff,Int.reduceLT,Int.reduceLE,↓u_setN]
    have hji:j≠i:=fun e=>by subst e;rw [Store.set_same] at hj;cases hj
    have hj0:s j=none:=by rw [Store.set_ne _ _ hji] at hj;exact hj
    have hsub:Store.sub s (((s.set i (Obj.arr 1 [])).del i).set j (Obj.arr 1 (List.map cU p[k].ls))):=fun y o hy=>by
     have h1:y≠i:=fun e=>by subst e;rw [hi] at hy;cases hy
     have h2:y≠j:=fun e=>by subst e;rw [hj0] at hy;cases hy
     rw [Store.set_ne _ _ h2,Store.del_ne _ h1,Store.set_ne _ _ h1];exact hy
    have hjs:(((s.set i (Obj.arr 1 [])).del i).set j (Obj.arr 1 (List.map cU p[k].ls))) j=some (.arr 1 (p[k].ls.map cU)):=Store.set_same _ _ _
    refine AllocQ.i0 fun b hb => ?_
    simp only [Nat.zero_add,↓vcPre,↓z0,↓reduceIte,vcPost,vcStd,Nat.reduceEqDiff,reduceCtorEq,Nat.reduceAdd,Nat.reduceLeDiff,Int.reduceLT,Int.reduceLE,↓u_setN]
    refine OwnP.app (τ:=σ) (s0:=s) (x:=p[k]) (j:=j) hs (Store.sub_trans hsub (Store.sub_set _ b _ hb)) ho' (Store.sub_set _ b _ hb _ _ hjs) hj0 (zj (Store.set_same _ _ _) rfl) (by simp;omega) fun v' s' hs' ho'' => ?_
    rw [ek]
    refine NextQ.to (k+1,v',s') rfl (Store.sub_refl _) (by simp only;omega) ⟨by simp only;omega,hs',?_⟩
    simp only [List.take_add_one,List.getElem?_eq_getElem c1,Option.toList_some]
    exact ho''
 ·have hkl:p.take k=p:=List.take_of_length_le (by omega)
  rw [hkl] at ho'
  exact EndQ.ownP rfl ho' hs ⟨rfl,rfl⟩
end Go.Am
namespace Go.Am.Tsf
open Go.Proofs Go.Am.B
def t80_34:BC := .seq (z [m 34 0] [0,1,5,34] (z [m 35 5] [0,1,5,34,35] (z [p 36 (.slice 1 false true) [.t 34,.t 35]] [0,1,5,36] (z [m 38 1] [0,5,36,38] (z [m 41 0] [5,36,38,41] (z [m 42 5] [36,38,41,42] (z [p 43 (.slice 1 true false) [.t 41,.t 42]] [36,38,43] (.both (z [⟨some 33,none,.alloc (.mksl 1 0),[]⟩] [33,36,38,43] (.both (z [⟨some 37,none,.loud (.app 1 4),[.t 33,.t 36]⟩] [37,38,43] (z [⟨some 39,none,.alloc (.mksl 1 1),[.t 38]⟩] [37,39,43] (z [⟨some 40,none,.loud (.app 1 4),[.t 37,.t 39]⟩] [40,43] (z [⟨some 44,none,.loud (.app 1 4),[.t 40,.t 43]⟩] [44] (z [m 4 44] [4] (.ops [] [4])))))) (.both (z [⟨some 39,none,.alloc (.mksl 1 1),[.t 38]⟩] [33,36,39,43] (z [⟨some 37,none,.loud (.app 1 4),[.t 33,.t 36]⟩] [37,39,43] (z [⟨some 40,none,.loud (.app 1 4),[.t 37,.t 39]⟩] [40,43] (z [⟨some 44,none,.loud (.app 1 4),[.t 40,.t 43]⟩] [44] (z [m 4 44] [4] (.ops [] [4])))))) (.top)))) (.both (z [⟨some 39,none,.alloc (.mksl 1 1),[.t 38]⟩] [36,39,43] (z [⟨some 33,none,.alloc (.mksl 1 0),[]⟩] [33,36,39,43] (z [⟨some 37,none,.loud (.app 1 4),[.t 33,.t 36]⟩] [37,39,43] (z [⟨some 40,none,.loud (.app 1 4),[.t 37,.t 39]⟩] [40,43] (z [⟨some 44,none,.loud (.app 1 4),[.t 40,.t 43]⟩] [44] (z [m 4 44] [4] (.ops [] [4]))))))) (.top)))))))))) .ret
def b80:BC:=z [k 4 .nils] [0,1] (z [j 5 0] [0,1,5] (.seq (.block 0 (.loop [0,1,5] (.seq (z [m 6 5,m 7 0,u 8 .len 7,b 9 .lss 6 8,m 10 9,⟨some 11,some (10,true),.pure (.mov),[.t 0]⟩,⟨some 12,some (10,true),.pure (.mov),[.t 5]⟩,⟨some 13,some (10,true),.pure (.idx 1),[.t 11,.t 12]⟩,⟨some 14,some (10,true),.load (.ld 1 false),[.t 13]⟩,⟨some 15,some (10,true),.pure (.mov),[.t 1]⟩,⟨some 16,some (10,true),.pure (.bin .lss),[.t 14,.t 15]⟩,⟨some 17,none,.pick,[.t 10,.t 16,.c (.bool false)]⟩] [0,1,5,17] (.cond (.t 17) .skip (.exit 0))) (.block 1 (.ops [m 18 5,c 19 .add 18 1,m 5 19] [0,1,5]))))) (.seq (z [m 20 5,m 21 0,u 22 .len 21,b 23 .lss 20 22,m 24 23,⟨some 25,some (24,true),.pure (.mov),[.t 0]⟩,⟨some 26,some (24,true),.pure (.mov),[.t 5]⟩,⟨some 27,some (24,true),.pure (.idx 1),[.t 25,.t 26]⟩,⟨some 28,some (24,true),.load (.ld 1 false),[.t 27]⟩,⟨some 29,some (24,true),.pure (.mov),[.t 1]⟩,⟨some 30,some (24,true),.pure (.bin .eql),[.t 28,.t 29]⟩,⟨some 31,none,.pick,[.t 24,.t 30,.c (.bool false)]⟩] [0,1,5,31] (.cond (.t 31) (z [m 32 0,m 4 32] [4] .ret) .skip)) t80_34)))
def F80:Fn Tryz.prog 80:=Fn.mkX false b80 [.t 4] 45 Tryz.f80 _ Tryz.func80 (by decide) rfl Tryz.ntmps80 (by kernel_rfl) (by kernel_rfl)
end Go.Am.Tsf
namespace Go.Am
open Go.Proofs Go.Sort
def putL:List Int→Int→List Int
 | [],n=>[n]
 | x::r,n=>if x<n then x::putL r n else if x=n then x::r else n::x::r
theorem z8u {L:List Int} {n:Int} {k:Nat} (hk:k≤L.length) (h:∀ i (h:i<L.length),i<k→L[i]<n):putL L n=L.take k++putL (L.drop k) n:=by
 induction L generalizing k with
 | nil=>simp at hk;subst hk;rfl
 | cons x r ih =>
   cases k with
   | zero=>simp
   | succ k =>
     have h0:=h 0 (by simp) (by omega)
     simp only [List.getElem_cons_zero] at h0
     simp only [putL,if_pos h0,List.take_succ_cons,List.drop_succ_cons,List.cons_append]
     rw [ih (by simpa using hk) (fun i hi hik=>by
      have:=h (i+1) (by simpa using hi) (by omega)
      simpa using this)]
theorem putL_mem {L:List Int} {n x:Int}:x ∈ putL L n↔x=n∨x ∈ L:=by
 induction L with
 | nil=>simp [putL]
 | cons y r ih =>
   simp only [putL]
   split
   ·simp [ih];grind
   ·split
    ·rename_i h;subst h;simp
    ·simp
theorem z73 {L:List Int} {n:Int} (h:Inc L):Inc (putL L n):=by
 induction L with
 | nil=>simp [putL,Inc]
 | cons y r ih =>
   simp only [putL]
   unfold Inc at h ih ⊢
   rw [List.pairwise_cons] at h
   split
   ·rename_i h1
    rw [List.pairwise_cons]
    refine ⟨fun z hz => ?_,ih h.2⟩
    rcases putL_mem.1 hz with rfl | hz
    ·exact h1
    ·exact h.1 z hz
   ·split
    ·rw [List.pairwise_cons];exact h
    ·rw [List.pairwise_cons,List.pairwise_cons]
     refine ⟨fun z hz => ?_,h⟩
     rcases List.mem_cons.1 hz with rfl | hz
     ·omega
     ·have:=h.1 z hz;omega
theorem uu (l:List Int):l.foldl putL []=canonC l:=by
 have key:∀ (l:List Int) (b:List Int),Inc b→Inc (l.foldl putL b)∧∀ x,x ∈ l.foldl putL b↔x ∈ b∨x ∈ l:=by
  intro l
  induction l with
  | nil=>intro b hb;exact ⟨hb,by simp⟩
  | cons y r ih =>
    intro b hb
    obtain ⟨h1,h2⟩:=ih (putL b y) (z73 hb)
    refine ⟨h1,fun x => ?_⟩
    show x ∈ r.foldl putL (putL b y)↔_
    rw [h2,putL_mem];simp;grind
 obtain ⟨h1,h2⟩:=key l [] (by simp [Inc])
 exact z38 h1 (vn l) fun x=>by rw [h2,vo];simp
theorem z1w (L:List Int) (n:Int):(putL L n).length≤L.length+1:=by
 induction L with
 | nil=>simp [putL]
 | cons y r ih =>
   simp only [putL]
   split
   ·simp;omega
   ·split <;> simp
end Go.Am
namespace Go.Am
open Go.Proofs Go.Sort
theorem Own.appN {esz bytes g:Nat} {τ s:Store} {L ys:List (List AV)} {wv:AV} {K:AV→Store→Prop} (hsub:Store.sub τ s) (hg:τ g=none) (hs:s g=some (.arr esz L)) (hw:slc s esz wv=some ys) (hsz:(L.length+ys.length)*bytes≤140737488355328)
 (h:∀ j s',Store.sub τ s'→τ j=none→s' j=some (.arr esz (L++ys))→K (.os j esz 0 (L.length+ys.length)) s'):appwp esz bytes (.os g esz 0 L.length) wv s K:=by
 refine ym (zj hs rfl) hw hsz fun j hj => ?_
 have hτ:τ j=none:=zi hsub hj
 refine h _ _ (fun x q hx => ?_) hτ (Store.set_same _ _ _)
 have hxj:x≠j:=fun e=>by subst e;rw [hτ] at hx;cases hx
 have hxg:x≠g:=fun e=>by subst e;rw [hg] at hx;cases hx
 rw [Store.set_ne _ _ hxj,Store.del_ne _ hxg];exact hsub x q hx
theorem z0d {esz id off n:Nat} {es:List (List AV)} {σ:Store} (h:σ id=some (.arr esz es)) (hn:off+n≤es.length):slc σ esz (.os id esz off n)=some ((es.drop off).take n):=by
 simp [slc,h,hn]
theorem z1x (L:List Int) (n:Int) (k:Nat) (hk:k≤L.length) (hL:L.length≤1000000) {g j b:Nat} {s t:Store} (hg:s g=some (.arr 1 (L.map cU))) (hsub:Store.sub s t) (hj:s j=none) (hb:s b=none) (hjb:b≠j)
 (htj:t j=some (.arr 1 ((L.take k).map cU))) (htb:t b=some (.arr 1 [cU n])) {K:AV→Store→Prop}
 (h:∀ j s',Store.sub s s'→s j=none→s' j=some (.arr 1 ((L.take k++n::L.drop k).map cU))→K (.os j 1 0 (L.length+1)) s') :
 appwp 1 4 (.os j 1 0 k) (.os b 1 0 1) t fun v s'=>appwp 1 4 v (.os g 1 k (L.length - k)) s' K:=by
 have e1:((L.take k).map cU).length=k:=by simp;omega
 have a1:=Own.appN (τ:=s) (g:=j) (bytes:=4) (L:=(L.take k).map cU) (K:=fun v s'=>appwp 1 4 v (.os g 1 k (L.length - k)) s' K) hsub hj htj (zj htb rfl) (by rw [e1];simp;omega) (fun j' s' q1 q2 q3=>by
  have e2:((L.take k).map cU++[cU n]).length=k+1:=by simp;omega
  have hs2:slc s' 1 (.os g 1 k (L.length - k))=some ((L.drop k).map cU):=by
   rw [z0d (q1 _ _ hg) (by simp;omega)]
   rw [List.take_of_length_le (by simp),List.map_drop]
  have a2:=Own.appN (τ:=s) (g:=j') (bytes:=4) (L:=(L.take k).map cU++[cU n]) (K:=K) q1 q2 q3 hs2 (by rw [e2];simp;omega) (fun j2 s2 p1 p2 p3=>by
   have e3:((L.take k).map cU++[cU n]).length+((L.drop k).map cU).length=L.length+1:=by simp;omega
   rw [e3]
   refine h j2 s2 p1 p2 ?_
   rw [p3];simp)
  rw [e2] at a2
  rw [e1];exact a2)
 rw [e1] at a1
 exact a1
theorem z3f (L:List Int) (n:Int) (k:Nat) (hk:k≤L.length) (hL:L.length≤1000000) {g i b:Nat} {s t:Store} (hg:s g=some (.arr 1 (L.map cU))) (hsub:Store.sub s t) (hi:s i=none) (hb:s b=none) (hib:b≠i)
 (hti:t i=some (.arr 1 [])) (htb:t b=some (.arr 1 [cU n])) {K:AV→Store→Prop}
 (h:∀ j s',Store.sub s s'→s j=none→s' j=some (.arr 1 ((L.take k++n::L.drop k).map cU))→K (.os j 1 0 (L.length+1)) s') :
 appwp 1 4 (.os i 1 0 0) (.os g 1 0 k) t fun v s'=>appwp 1 4 v (.os b 1 0 1) s' fun v s'=>appwp 1 4 v (.os g 1 k (L.length - k)) s' K:=by
 have hsb:Store.sub (s.set b (.arr 1 [cU n])) t:=fun y o hy=>by
  by_cases hyb:y=b
  ·subst hyb;rw [Store.set_same] at hy;cases hy;exact htb
  ·rw [Store.set_ne _ _ hyb] at hy;exact hsub _ _ hy
 have e1:((L.take k).map cU).length=k:=by simp;omega
 have hs2:slc t 1 (.os g 1 0 k)=some ((L.take k).map cU):=by
  rw [z0d (hsub _ _ hg) (by simp;omega)]
  rw [List.drop_zero,List.map_take]
 refine Own.appN (τ:=s.set b (.arr 1 [cU n])) (g:=i) (L:=[]) hsb (by rw [Store.set_ne _ _ (fun e=>hib e.symm)];exact hi) hti hs2 (by rw [e1];simp;omega) fun j s' q1 q2 q3 => ?_
 have hjb:j≠b:=fun e=>by subst e;rw [Store.set_same] at q2;cases q2
 rw [Store.set_ne _ _ hjb] at q2
 have:=z1x L n k hk hL hg (Store.sub_trans (Store.sub_set _ b _ hb) q1) q2 hb (fun e=>hjb e.symm) (by simpa using q3) (q1 _ _ (Store.set_same _ _ _)) h
 simp only [List.length_nil,Nat.zero_add,e1]
 exact this
theorem z7b (E:Env) (L:List Int) (n:Int) (k:Nat) (hk:k≤L.length) (hL:L.length≤1000000) {g:Nat} {s:Store} (hg:s g=some (.arr 1 (L.map cU))) {nn rr:Env→Store→Prop} {x:Nat→Env→Store→Prop}
 (hr:∀ j s',Store.sub s s'→s j=none→s' j=some (.arr 1 ((L.take k++n::L.drop k).map cU))→rr [(4,.os j 1 0 (L.length+1))] s') :
 bwp Tryz.prog Tsf.t80_34 ((0,.os g 1 0 L.length)::(1,.int .u32 n)::(5,.int .i64 (k:Int))::E) s nn rr x:=by
 simp only [Tsf.t80_34]
 simp only [hg,↓vcPre,↓z0,↓reduceIte,vcPost,vcStd,Nat.reduceEqDiff,reduceCtorEq,Nat.reduceAdd,Nat.reduceLeDiff,Int.reduceLT,Int.reduceLE,↓u_setN]
 refine ⟨⟨by simp only [Option.getD_some];omega,by simp only [Option.getD_some];omega⟩,⟨by simp only [Option.getD_none];omega,by simp only [Option.getD_none];omega⟩,?_,?_⟩
 ·refine AllocQ.i0 fun i hi => ?_
  simp only [hg,Option.getD_some,Option.getD_none,Int.toNat_natCast,Int.toNat_zero,Nat.sub_zero,Nat.zero_add,↓vcPre,↓z0,↓reduceIte,vcPost,vcStd,Nat.reduceEqDiff,reduceCtorEq,Nat.reduceAdd,Nat.reduceLeDiff,Int.reduceLT,Int.reduceLE,↓u_setN]
  have e1:((L.take k).map cU).length=k:=by simp;omega
  refine ⟨?_,?_⟩
  ·refine Own.appN (τ:=s) (g:=i) (L:=[]) (ys:=(L.take k).map cU) (Store.sub_set _ _ _ hi) hi (Store.set_same _ _ _) ?_ (by rw [e1];simp;omega) fun j s1 q1 q2 q3 => ?_
   ·rw [z0d (Store.sub_set _ _ _ hi _ _ hg) (by simp;omega),List.drop_zero,List.map_take]
   refine AllocQ.i0 fun b hb => ?_
   have hjb:b≠j:=fun e=>by subst e;rw [q3] at hb;cases hb
   simp only [List.length_nil,Nat.zero_add,e1,List.nil_append] at q3 ⊢
   simp only [hg,↓vcPre,↓z0,↓reduceIte,vcPost,vcStd,Nat.reduceEqDiff,reduceCtorEq,Nat.reduceAdd,Nat.reduceLeDiff,Int.reduceLT,Int.reduceLE,↓u_setN]
   refine z1x L n k hk hL hg (Store.sub_trans q1 (Store.sub_set _ b _ hb)) q2 (zi q1 hb) hjb (Store.sub_set _ b _ hb _ _ q3) (Store.set_same _ _ _) fun j2 s2 p1 p2 p3 => ?_
   exact hr j2 s2 p1 p2 p3
  ·refine AllocQ.i0 fun b hb => ?_
   simp only [hg,Option.getD_some,Option.getD_none,Int.toNat_natCast,Int.toNat_zero,Nat.sub_zero,Nat.zero_add,↓vcPre,↓z0,↓reduceIte,vcPost,vcStd,Nat.reduceEqDiff,reduceCtorEq,Nat.reduceAdd,Nat.reduceLeDiff,Int.reduceLT,Int.reduceLE,↓u_setN]
   have hbi:b≠i:=fun e=>by subst e;rw [Store.set_same] at hb;cases hb
   rw [Store.set_ne _ _ hbi] at hb
   refine z3f L n k hk hL hg (zk hi hb hbi) hi hb hbi (by rw [Store.set_ne _ _ (fun e=>hbi e.symm),Store.set_same]) (Store.set_same _ _ _) fun j2 s2 p1 p2 p3=>hr j2 s2 p1 p2 p3
 ·refine AllocQ.i0 fun b hb => ?_
  simp only [hg,↓vcPre,↓z0,↓reduceIte,vcPost,vcStd,Nat.reduceEqDiff,reduceCtorEq,Nat.reduceAdd,Nat.reduceLeDiff,Int.reduceLT,Int.reduceLE,↓u_setN]
  refine AllocQ.i0 fun i hi => ?_
  simp only [hg,Option.getD_some,Option.getD_none,Int.toNat_natCast,Int.toNat_zero,Nat.sub_zero,Nat.zero_add,↓vcPre,↓z0,↓reduceIte,vcPost,vcStd,Nat.reduceEqDiff,reduceCtorEq,Nat.reduceAdd,Nat.reduceLeDiff,Int.reduceLT,Int.reduceLE,↓u_setN]
  have hib:i≠b:=fun e=>by subst e;rw [Store.set_same] at hi;cases hi
  rw [Store.set_ne _ _ hib] at hi
  refine z3f L n k hk hL hg (zk hb hi hib) hi hb (fun e=>hib e.symm) (Store.set_same _ _ _) (by rw [Store.set_ne _ _ (fun e=>hib e.symm),Store.set_same];rfl) fun j2 s2 p1 p2 p3=>hr j2 s2 p1 p2 p3
end Go.Am
namespace Go.Am
open Go.Proofs Go.Sort
theorem z18 {A B:List (List AV)} {y:List AV} {w2:AV} {j b:Nat} {s t:Store} (hsub:Store.sub s t) (hj:s j=none)
 (htj:t j=some (.arr 1 A)) (htb:t b=some (.arr 1 [y])) (h2:∀ t,Store.sub s t→slc t 1 w2=some B) (hsz:(A.length+1+B.length)*4≤140737488355328) {K:AV→Store→Prop}
 (h:∀ j s',Store.sub s s'→s j=none→s' j=some (.arr 1 (A++y::B))→K (.os j 1 0 (A.length+1+B.length)) s') :
 appwp 1 4 (.os j 1 0 A.length) (.os b 1 0 1) t fun v s'=>appwp 1 4 v w2 s' K:=by
 refine Own.appN (τ:=s) (g:=j) (L:=A) hsub hj htj (zj htb rfl) (by simp;omega) fun j' s' q1 q2 q3 => ?_
 have e2:(A++[y]).length=A.length+1:=by simp
 have a2:=Own.appN (τ:=s) (g:=j') (bytes:=4) (L:=A++[y]) (K:=K) q1 q2 q3 (h2 _ q1) (by rw [e2];exact hsz) (fun j2 s2 p1 p2 p3=>by
  rw [e2]
  refine h j2 s2 p1 p2 ?_
  rw [p3];simp)
 rw [e2] at a2
 exact a2
theorem z2s {A B:List (List AV)} {y:List AV} {w1 w2:AV} {i b:Nat} {s t:Store} (hsub:Store.sub s t) (hi:s i=none) (hb:s b=none) (hib:b≠i)
 (hti:t i=some (.arr 1 [])) (htb:t b=some (.arr 1 [y])) (h1:∀ t,Store.sub s t→slc t 1 w1=some A) (h2:∀ t,Store.sub s t→slc t 1 w2=some B) (hsz:(A.length+1+B.length)*4≤140737488355328) {K:AV→Store→Prop}
 (h:∀ j s',Store.sub s s'→s j=none→s' j=some (.arr 1 (A++y::B))→K (.os j 1 0 (A.length+1+B.length)) s') :
 appwp 1 4 (.os i 1 0 0) w1 t fun v s'=>appwp 1 4 v (.os b 1 0 1) s' fun v s'=>appwp 1 4 v w2 s' K:=by
 have hsb:Store.sub (s.set b (.arr 1 [y])) t:=fun z o hy=>by
  by_cases hyb:z=b
  ·subst hyb;rw [Store.set_same] at hy;cases hy;exact htb
  ·rw [Store.set_ne _ _ hyb] at hy;exact hsub _ _ hy
 refine Own.appN (τ:=s.set b (.arr 1 [y])) (g:=i) (L:=[]) hsb (by rw [Store.set_ne _ _ (fun e=>hib e.symm)];exact hi) hti (h1 _ hsub) (by simp;omega) fun j s' q1 q2 q3 => ?_
 have hjb:j≠b:=fun e=>by subst e;rw [Store.set_same] at q2;cases q2
 rw [Store.set_ne _ _ hjb] at q2
 have:=z18 (A:=A) (B:=B) (Store.sub_trans (Store.sub_set _ b _ hb) q1) q2 (by simpa using q3) (q1 _ _ (Store.set_same _ _ _)) h2 hsz h
 simp only [List.length_nil,Nat.zero_add]
 exact this
theorem z5o (E:Env) (n:Int) {s:Store} {nn rr:Env→Store→Prop} {x:Nat→Env→Store→Prop}
 (hr:∀ j s',Store.sub s s'→s j=none→s' j=some (.arr 1 [cU n])→rr [(4,.os j 1 0 1)] s') :
 bwp Tryz.prog Tsf.t80_34 ((0,.nils)::(1,.int .u32 n)::(5,.int .i64 0)::E) s nn rr x:=by
 simp only [Tsf.t80_34]
 have hn:∀ t,Store.sub s t→slc t 1 .nils=some []:=fun _ _=>rfl
 simp only [↓vcPre,↓z0,↓reduceIte,vcPost,vcStd,Nat.reduceEqDiff,reduceCtorEq,Nat.reduceAdd,Nat.reduceLeDiff,Int.reduceLT,Int.reduceLE,↓u_setN]
 refine ⟨⟨by simp,by simp⟩,⟨by simp,by simp⟩,?_,?_⟩
 ·refine AllocQ.i0 fun i hi => ?_
  simp only [↓vcPre,↓z0,↓reduceIte,vcPost,vcStd,Nat.reduceEqDiff,reduceCtorEq,Nat.reduceAdd,Nat.reduceLeDiff,Int.reduceLT,Int.reduceLE,↓u_setN]
  refine ⟨?_,?_⟩
  ·refine Own.appN (τ:=s) (g:=i) (L:=[]) (ys:=[]) (Store.sub_set _ _ _ hi) hi (Store.set_same _ _ _) rfl (by simp) fun j s1 q1 q2 q3 => ?_
   refine AllocQ.i0 fun b hb => ?_
   have hjb:b≠j:=fun e=>by subst e;rw [q3] at hb;cases hb
   simp only [List.length_nil,Nat.zero_add,List.nil_append] at q3 ⊢
   simp only [↓vcPre,↓z0,↓reduceIte,vcPost,vcStd,Nat.reduceEqDiff,reduceCtorEq,Nat.reduceAdd,Nat.reduceLeDiff,Int.reduceLT,Int.reduceLE,↓u_setN]
   exact z18 (A:=[]) (B:=[]) (Store.sub_trans q1 (Store.sub_set _ b _ hb)) q2 (Store.sub_set _ b _ hb _ _ q3) (Store.set_same _ _ _) hn (by simp) fun j2 s2 p1 p2 p3=>hr j2 s2 p1 p2 p3
  ·refine AllocQ.i0 fun b hb => ?_
   simp only [↓vcPre,↓z0,↓reduceIte,vcPost,vcStd,Nat.reduceEqDiff,reduceCtorEq,Nat.reduceAdd,Nat.reduceLeDiff,Int.reduceLT,Int.reduceLE,↓u_setN]
   have hbi:b≠i:=fun e=>by subst e;rw [Store.set_same] at hb;cases hb
   rw [Store.set_ne _ _ hbi] at hb
   exact z2s (A:=[]) (B:=[]) (zk hi hb hbi) hi hb hbi (by rw [Store.set_ne _ _ (fun e=>hbi e.symm),Store.set_same]) (Store.set_same _ _ _) hn hn (by simp) fun j2 s2 p1 p2 p3=>hr j2 s2 p1 p2 p3
 ·refine AllocQ.i0 fun b hb => ?_
  simp only [↓vcPre,↓z0,↓reduceIte,vcPost,vcStd,Nat.reduceEqDiff,reduceCtorEq,Nat.reduceAdd,Nat.reduceLeDiff,Int.reduceLT,Int.reduceLE,↓u_setN]
  refine AllocQ.i0 fun i hi => ?_
  simp only [↓vcPre,↓z0,↓reduceIte,vcPost,vcStd,Nat.reduceEqDiff,reduceCtorEq,Nat.reduceAdd,Nat.reduceLeDiff,Int.reduceLT,Int.reduceLE,↓u_setN]
  have hib:i≠b:=fun e=>by subst e;rw [Store.set_same] at hi;cases hi
  rw [Store.set_ne _ _ hib] at hi
  exact z2s (A:=[]) (B:=[]) (zk hb hi hib) hi hb (fun e=>hib e.symm) (Store.set_same _ _ _) (by rw [Store.set_ne _ _ (fun e=>hib e.symm),Store.set_same];rfl) hn hn (by simp) fun j2 s2 p1 p2 p3=>hr j2 s2 p1 p2 p3
theorem s80 {τ s:Store} (hτ:Store.sub τ s) (L:List Int) (n:Int) (hL:L.length≤1000000) {v:AV} (ho:Own 1 τ (L.map cU) v s):ACalls Tryz.prog 80 [v,.int .u32 n] s (fun r s'=>Store.sub τ s'∧Own 1 τ ((putL L n).map cU) r s'):=by
 refine zf Tsf.F80 (by simp [Tsf.F80,Fn.mkX]) ?_
 simp only [Tsf.F80,Fn.mkX,Tsf.b80]
 rcases ho with ⟨h0,rfl⟩ | ⟨g,rfl,hgg,hg⟩
 ·have hL0:L=[]:=by simpa using h0
  subst hL0
  simp only [↓vcPre,↓z0,↓reduceIte,vcPost,vcStd,Nat.reduceEqDiff,reduceCtorEq,Nat.reduceAdd,Nat.reduceLeDiff,Int.reduceLT,Int.reduceLE,↓u_setN]
  refine LoopQ.inv (S:=Unit) (fun _=>[(0,.nils),(1,.int .u32 n),(5,.int .i64 0)]) (fun _=>s) (fun _=>True) (fun _=>0) () rfl (Store.sub_refl _) trivial ?_
  intro _ _
  simp only [↓vcPre,↓z0,↓reduceIte,vcPost,vcStd,Nat.reduceEqDiff,reduceCtorEq,Nat.reduceAdd,Nat.reduceLeDiff,Int.reduceLT,Int.reduceLE,↓u_setN]
  refine z5o _ n fun j s' h1 h2 h3 => ?_
  refine EndQ.to s' (.os j 1 0 1) rfl (Store.sub_refl _) ⟨Store.sub_trans hτ h1,.inr ⟨j,rfl,zi hτ h2,h3⟩⟩
 ·simp only [List.length_map]
  simp only [hg,↓vcPre,↓z0,↓reduceIte,vcPost,vcStd,Nat.reduceEqDiff,reduceCtorEq,Nat.reduceAdd,Nat.reduceLeDiff,Int.reduceLT,Int.reduceLE,↓u_setN]
  refine LoopQ.inv (S:=Nat) (fun k=>[(0,.os g 1 0 L.length),(1,.int .u32 n),(5,.int .i64 (k:Int))]) (fun _=>s) (fun k=>k≤L.length∧∀ i (h:i<L.length),i<k→L[i]<n) (fun k=>L.length+1 - k) 0 rfl (Store.sub_refl _) ⟨by omega,fun i _ h=>by omega⟩ ?_
  rintro k ⟨hk,hlt⟩
  simp only [hg,Nat.zero_add,↓vcPre,↓z0,↓reduceIte,vcPost,vcStd,Nat.reduceEqDiff,reduceCtorEq,Nat.reduceAdd,Nat.reduceLeDiff,Int.reduceLT,Int.reduceLE,↓u_setN]
  have ek:IntKind.i64.wrap ((k:Int)+1)=((k+1:Nat):Int):=by rw [za (by unfold I64;omega)];omega
  have hput:=z8u hk hlt
  have tail:(∀ h:k<L.length,n<L[k])→∀ E,bwp Tryz.prog Tsf.t80_34 ((0,.os g 1 0 L.length)::(1,.int .u32 n)::(5,.int .i64 (k:Int))::E) s (fun e τ' => @EndQ e τ' ⟨Tsf.F80.slots,fun r s'=>Store.sub τ s'∧Own 1 τ ((putL L n).map cU) r s'⟩) (fun e τ' => @EndQ e τ' ⟨Tsf.F80.slots,fun r s'=>Store.sub τ s'∧Own 1 τ ((putL L n).map cU) r s'⟩) fun _ _ _=>False:=fun hkn E=>by
   have hpl:putL L n=L.take k++n::L.drop k:=by
    rw [hput]
    by_cases c1:k<L.length
    ·have:=hkn c1
     rw [List.drop_eq_getElem_cons c1]
     simp only [putL]
     rw [if_neg (by omega),if_neg (by omega)]
    ·rw [List.drop_eq_nil_of_le (by omega)];rfl
   refine z7b E L n k hk hL hg fun j s' h1 h2 h3 => ?_
   refine EndQ.to s' (.os j 1 0 (L.length+1)) rfl (Store.sub_refl _) ⟨Store.sub_trans hτ h1,.inr ⟨j,?_,zi hτ h2,by rw [hpl];exact h3⟩⟩
   rw [hpl];simp;omega
  refine ⟨fun c1=>⟨c1,c1,by simp [cU],?_⟩,fun c1=>⟨fun c2=>absurd c2 c1,fun _=>tail (fun h=>absurd h c1) _⟩⟩
  simp only [cU,↓vcPre,↓z0,↓reduceIte,vcPost,vcStd,Nat.reduceEqDiff,reduceCtorEq,Nat.reduceAdd,Nat.reduceLeDiff,Int.reduceLT,Int.reduceLE,↓u_setN]
  refine ⟨fun g1 => ?_,fun g1=>⟨fun _=>⟨c1,c1,?_⟩,fun c2=>absurd c1 c2⟩⟩
  ·rw [ek]
   refine NextQ.to (k+1) rfl (Store.sub_refl _) (by omega) ⟨by omega,fun i hi hik => ?_⟩
   by_cases hik':i=k
   ·subst hik';exact g1
   ·exact hlt i hi (by omega)
  ·refine ⟨fun g2 => ?_,fun g2=>tail (fun _=>by omega) _⟩
   refine EndQ.to s (.os g 1 0 L.length) rfl (Store.sub_refl _) ⟨hτ,.inr ⟨g,?_,hgg,?_⟩⟩
   ·have hpl:putL L n=L:=by
     rw [hput,List.drop_eq_getElem_cons c1]
     simp only [putL]
     rw [if_neg (by omega),if_pos g2,←List.drop_eq_getElem_cons c1,List.take_append_drop]
    rw [hpl];simp
   ·have hpl:putL L n=L:=by
     rw [hput,List.drop_eq_getElem_cons c1]
     simp only [putL]
     rw [if_neg (by omega),if_pos g2,←List.drop_eq_getElem_cons c1,List.take_append_drop]
    rw [hpl];exact hg
end Go.Am
namespace Go.Am.Tsg
open Go.Proofs Go.Am.B
def t41_3:BC:=z [k 3 .nils] [1,2,3] (.seq (z [j 4 0] [1,2,3,4] (.block 0 (.loop [1,2,3,4] (.seq (z [m 17 4,f 18 8 1,l 19 1 18,u 20 .len 19,b 21 .lss 17 20] [1,2,3,4,21] (.cond (.t 21) .skip (.exit 0))) (.seq (.block 1 (.ops [m 24 3,f 25 8 1,l 26 1 25,m 27 4,x 28 1 26 27,l 29 1 28,g 30 80 [.t 24,.t 29],m 3 30] [1,2,3,4])) (.ops [m 22 4,c 23 .add 22 1,m 4 23] [1,2,3,4])))))) (z [m 31 3,f 32 8 1,s 1 32 31] [1,2] (z [⟨some 33,none,.load (.ld 9 true),[.t 1]⟩,s 9 2 33] [2] .ret)))
def b41:BC:=z [⟨some 1,none,.alloc (.box),[.t 0]⟩,⟨some 2,none,.alloc (.alloc [(.int .i64 0),.nils,(.int .u32 0),(.bool false),(.int .u32 0),(.bool false),(.int .u32 0),(.bool false),.nils]),[]⟩] [1,2] (z [f 5 1 1,l 6 1 5,g 7 79 [.t 6],f 8 1 1,s 1 8 7] [1,2] (.seq (z [f 9 3 1,l 10 1 9,u 11 .not 10] [1,2,11] (.cond (.t 11) (.ops [f 12 4 1,⟨none,none,.loud (.st 1),[.t 12,.c (.int .u32 0)]⟩] [1,2]) .skip)) (.seq (z [f 13 5 1,l 14 1 13,u 15 .not 14] [1,2,15] (.cond (.t 15) (.ops [f 16 6 1,⟨none,none,.loud (.st 1),[.t 16,.c (.int .u32 0)]⟩] [1,2]) .skip)) t41_3)))
def F41:Fn Tryz.prog 41:=Fn.mkX false b41 [.c 2 9 true] 34 Tryz.f41 _ Tryz.func41 (by decide) rfl Tryz.ntmps41 (by kernel_rfl) (by kernel_rfl)
end Go.Am.Tsg
namespace Go.Am
open Go.Proofs Go.Sort
theorem z2p (E:Env) (a:At) (ha:a.ok) {σ t:Store} {i j:Nat} {z:List AV} (hz:z.length=9) (hi:t i=some (.box a.c)) (hj:t j=some (.box z)) (hij:¬ i=j) (hi0:σ i=none) (hj0:σ j=none) (hs:Store.sub σ t) {nn rr:Env→Store→Prop} {x:Nat→Env→Store→Prop}
 (hr:∀ v s',Store.sub σ s'→Own 1 σ ((canonC a.cms).map cU) v s'→s' j=some (.box (a.cO v))→rr [(2,.ptr j 0)] s') :
 bwp Tryz.prog Tsg.t41_3 ((1,.ptr i 0)::(2,.ptr j 0)::E) t nn rr x:=by
 simp only [Tsg.t41_3]
 have hji:¬ j=i:=fun e=>hij e.symm
 have hcm:a.cms.length≤1000000:=ha.2.2
 simp only [↓vcPre,↓z0,↓reduceIte,vcPost,vcStd,Nat.reduceEqDiff,reduceCtorEq,Nat.reduceAdd,Nat.reduceLeDiff,Int.reduceLT,Int.reduceLE,↓u_setN]
 refine LoopQ.inv (S:=Nat×AV×Store) (fun q=>[(1,.ptr i 0),(2,.ptr j 0),(3,q.2.1),(4,.int .i64 (q.1:Int))]) (fun q=>q.2.2) (fun q=>q.1≤a.cms.length∧Store.sub t q.2.2∧Own 1 t (((a.cms.take q.1).foldl putL []).map cU) q.2.1 q.2.2) (fun q=>a.cms.length+1 - q.1) (0,.nils,t) rfl (Store.sub_refl _) ⟨by simp only;omega,Store.sub_refl _,.nil⟩ ?_
 rintro ⟨k,v,s⟩ ⟨hk,hts,ho⟩
 simp only at hk hts ho
 have hsi:=hts _ _ hi
 have hsj:=hts _ _ hj
 simp only [hsi,At.c,↓vcPre,↓z0,↓reduceIte,vcPost,vcStd,Nat.reduceEqDiff,reduceCtorEq,Nat.reduceAdd,Nat.reduceLeDiff,Int.reduceLT,Int.reduceLE,↓u_setN]
 refine ⟨fun c1 => ?_,fun c1 => ?_⟩
 ·have ek:IntKind.i64.wrap ((k:Int)+1)=((k+1:Nat):Int):=by rw [za (by unfold I64;omega)];omega
  refine ⟨c1,by simp [cU],?_⟩
  simp only [cU,↓vcPre,↓z0,↓reduceIte,vcPost,vcStd,Nat.reduceEqDiff,reduceCtorEq,Nat.reduceAdd,Nat.reduceLeDiff,Int.reduceLT,Int.reduceLE,↓u_setN]
  have hfl:∀ (l:List Int) (b:List Int),(l.foldl putL b).length≤b.length+l.length:=by
   intro l
   induction l with
   | nil=>intro b;simp
   | cons y r ih=>intro b;have h1:=ih (putL b y);have h2:=z1w b y;simp only [List.foldl_cons,List.length_cons];omega
  have hlen:=hfl (a.cms.take k) []
  simp only [List.length_take,List.length_nil] at hlen
  refine (s80 hts ((a.cms.take k).foldl putL []) a.cms[k] (by omega) ho).Q ?_
  rintro r s' ⟨h1,h2⟩
  simp only [↓vcPre,↓z0,↓reduceIte,vcPost,vcStd,Nat.reduceEqDiff,reduceCtorEq,Nat.reduceAdd,Nat.reduceLeDiff,Int.reduceLT,Int.reduceLE,↓u_setN]
  rw [ek]
  refine NextQ.to (k+1,r,s') rfl (Store.sub_refl _) (by simp only;omega) ⟨by simp only;omega,h1,?_⟩
  simp only
  rw [wu putL [] c1]
  exact h2
 ·have hkl:a.cms.take k=a.cms:=List.take_of_length_le (by omega)
  rw [hkl,uu] at ho
  have hv:v.isTup=false∧v.cells=[v]:=by
   rcases ho with ⟨_,rfl⟩ | ⟨g,rfl,_,_⟩ <;> exact ⟨rfl,rfl⟩
  simp only [hv.1,hv.2,hsi,hsj,hij,hji,At.c,hz,↓vcPre,↓z0,↓reduceIte,vcPost,vcStd,Nat.reduceEqDiff,reduceCtorEq,Nat.reduceAdd,Nat.reduceLeDiff,Int.reduceLT,Int.reduceLE,↓u_setN]
  rw [zz _ _ (by simp [hz]),y7]
  refine hr v _ (z6 (z6 (Store.sub_trans hs hts) hi0) hj0) ?_ (Store.set_same _ _ _)
  rcases ho.weak hs with h | ⟨g,h1,h2,h3⟩
  ·exact .inl h
  ·refine .inr ⟨g,h1,h2,?_⟩
   have hgi:¬ g=i:=fun e=>by rw [e,hsi] at h3;cases h3
   have hgj:¬ g=j:=fun e=>by rw [e,hsj] at h3;cases h3
   rw [Store.set_ne _ _ hgj,Store.set_ne _ _ hgi];exact h3
theorem s41 (a:At) (ha:a.ok) {σ:Store} {Q:AV→Store→Prop} (hQ:∀ v s',Store.sub σ s'→Own 1 σ ((canonC a.cms).map cU) v s'→Weak (.agg ((canonA a).cO v)) s' Q):ACalls Tryz.prog 41 [.agg a.c] σ Q:=by
 refine zf Tsg.F41 (by simp [Tsg.F41,Fn.mkX]) ?_
 simp only [Tsg.F41,Fn.mkX,Tsg.b41]
 simp only [At.c,↓vcPre,↓z0,↓reduceIte,vcPost,vcStd,Nat.reduceEqDiff,reduceCtorEq,Nat.reduceAdd,Nat.reduceLeDiff,Int.reduceLT,Int.reduceLE,↓u_setN]
 refine AllocQ.i0 fun i hi => ?_
 simp only [At.c,↓vcPre,↓z0,↓reduceIte,vcPost,vcStd,Nat.reduceEqDiff,reduceCtorEq,Nat.reduceAdd,Nat.reduceLeDiff,Int.reduceLT,Int.reduceLE,↓u_setN]
 refine AllocQ.i1 fun j hj1 hj2 hj => ?_
 simp only [hj1,hj2,↓vcPre,↓z0,↓reduceIte,vcPost,vcStd,Nat.reduceEqDiff,reduceCtorEq,Nat.reduceAdd,Nat.reduceLeDiff,Int.reduceLT,Int.reduceLE,↓u_setN]
 refine (c79 _ ha.1 ha.2.1).Q ?_
 simp only [hj1,hj2,↓vcPre,↓z0,↓reduceIte,vcPost,vcStd,Nat.reduceEqDiff,reduceCtorEq,Nat.reduceAdd,Nat.reduceLeDiff,Int.reduceLT,Int.reduceLE,↓u_setN]
 have key:∀ (E:Env) (t:Store) (z:List AV) (x:Nat→Env→Store→Prop) (n:Env→Store→Prop) (m p:Int),z.length=9→t i=some (.box ({ a with med:=m,prf:=p }:At).c)→t j=some (.box z)→Store.sub σ t→(if a.hm then a.med else 0)=m→(if a.hp then a.prf else 0)=p →
  bwp Tryz.prog Tsg.t41_3 ((1,.ptr i 0)::(2,.ptr j 0)::E) t n (fun e s => @EndQ e s ⟨Tsg.F41.slots,Q⟩) x:=by
  intro E t z x n m p hz h1 h2 h3 rfl rfl
  refine z2p E { a with med:=(if a.hm then a.med else 0),prf:=(if a.hp then a.prf else 0) } ha hz h1 h2 hj2 hi hj h3 ?_
  intro v s' q1 q2 q3
  unfold EndQ
  refine ⟨_,?_,hQ v s' q1 q2⟩
  show Env.res [(2,AV.ptr j 0)] s' [RS.c 2 9 true]=_
  have e9:∀ x:At,(x.cO v).length=9:=fun _=>rfl
  have t9:∀ x:At,List.take 9 (x.cO v)=x.cO v:=fun _=>rfl
  simp only [q3,e9,t9,Nat.le_refl,↓vcPre,↓z0,↓reduceIte,vcPost,vcStd,Nat.reduceEqDiff,reduceCtorEq,Nat.reduceAdd,Nat.reduceLeDiff,Int.reduceLT,Int.reduceLE,↓u_setN]
  rfl
 cases hm:a.hm <;> cases hp:a.hp
 all_goals simp only [↓vcPre,↓z0,↓reduceIte,vcPost,vcStd,Nat.reduceEqDiff,reduceCtorEq,Nat.reduceAdd,Nat.reduceLeDiff,Int.reduceLT,Int.reduceLE,↓u_setN]
 all_goals
  refine key _ _ zCells _ _ (if a.hm then a.med else 0) (if a.hp then a.prf else 0) rfl ?_ ?_ ?_ rfl rfl
  ·rw [Store.set_same];simp [At.c,hm,hp]
  ·simp only [Store.set_ne _ _ hj1,Store.set_same];rfl
  ·first
    | exact z6 (z6 (z6 (zk hi hj hj1) hi) hi) hi
    | exact z6 (z6 (zk hi hj hj1) hi) hi
    | exact z6 (zk hi hj hj1) hi
theorem c41 (a:At) (ha:a.ok):Pur Tryz.prog 41 [.agg a.c] (.agg (canonA a).c):=fun σ =>
 s41 a ha fun v s' hs ho=>by
  rcases ho with ⟨h0,rfl⟩ | ⟨g,rfl,hg,hh⟩
  ·have h0':canonC a.cms=[]:=by simpa using h0
   refine Weak.agg (WeakL.nil 8 1 rfl (WeakL.forget hs (WeakL.pure ⟨?_,rfl,?_⟩)))
   ·intro c hc
    simp [At.cO] at hc
    rcases hc with rfl | rfl | rfl | rfl | rfl | rfl | rfl | rfl | rfl <;> rfl
   ·simp [At.cO,At.c,canonA,h0']
  ·refine Weak.agg (WeakL.freeze 8 rfl hh (by simp) (WeakL.forget (fun i o hi => ?_) (WeakL.pure ⟨?_,rfl,?_⟩)))
   ·rw [Store.del_ne _ (fun e=>by subst e;rw [hg] at hi;cases hi)];exact hs i o hi
   ·intro c hc
    simp [At.cO] at hc
    rcases hc with rfl | rfl | rfl | rfl | rfl | rfl | rfl | rfl | rfl <;> rfl
   ·have:List.take (canonC a.cms).length ((canonC a.cms).map cU)=(canonC a.cms).map cU:=List.take_of_length_le (by simp)
    simp [At.cO,At.c,canonA,this]
end Go.Am
namespace Go.Am
open Go.Proofs Go.Sort
theorem v9 (b:Bool):Pur Tryz.prog 121 [.bool b] (.int .i64 (sideF b)):=by
 refine zl Tst.F121 (by simp [Tst.F121,Fn.mkX]) fun σ => ?_
 simp only [Tst.F121,Fn.mkX,Tst.b121]
 cases b <;> simp only [↓vcPre,↓z0,↓reduceIte,vcPost,vcStd,Nat.reduceEqDiff,reduceCtorEq,Nat.reduceAdd,Nat.reduceLeDiff,Int.reduceLT,Int.reduceLE,↓u_setN] <;> rfl
theorem z6b {x y:Bool} (h:x≠y):(x != y)=true:=by cases x <;> cases y <;> simp_all
theorem z6a {x y:Bool} (h:x=y):(x != y)=false:=by cases x <;> cases y <;> simp_all
end Go.Am
namespace Go.Am
open Go.Proofs Go.Sort
def ofSz (k:Int):Int:=if k=1 then 1 else if k=2 then -1 else if k=3∨k=4∨k=5 then 4 else if k=8 then -4 else 0
def ofOk (k:Int):Bool:=decide (wantOf k≠0)
theorem c69 (k:Int):Pur Tryz.prog 69 [.int .i64 k] (.tup [.int .i64 (wantOf k),.int .i64 (ofSz k),.bool (ofOk k)]):=by
 refine zl Tst.F69 (by simp [Tst.F69,Fn.mkX]) fun σ => ?_
 simp only [Tst.F69,Fn.mkX,Tst.b69]
 simp only [↓vcPre,↓z0,↓reduceIte,vcPost,vcStd,Nat.reduceEqDiff,reduceCtorEq,Nat.reduceAdd,Nat.reduceLeDiff,Int.reduceLT,Int.reduceLE,↓u_setN]
 refine ⟨fun h => ?_,fun h1=>⟨fun h => ?_,fun h2=>⟨fun h => ?_,fun h3=>⟨fun h => ?_,fun h4=>⟨fun h => ?_,fun h5=>⟨fun h => ?_,fun h6=>⟨fun h => ?_,fun h8 => ?_⟩⟩⟩⟩⟩⟩⟩
 all_goals first
  | (subst h;rfl)
  | (simp [ofSz,ofOk,wantOf,h1,h2,h3,h4,h5,h6,h8])
theorem s63 {τ s:Store} {id:Nat} {L M:List Int} {wv:AV} (h:WI τ id L s) (k:Int) (hk:0≤k∧k≤8∧wantOf k≠0) (hw:Rd 1 τ (M.map cB) wv) (hL:L.length≤1000000) (hM:M.length≤1000000) :
 ACalls Tryz.prog 63 [.ptr id 0,.int .i64 k,wv] s (fun r s'=>r = .tup []∧WI τ id (L++oneA (wantOf k) k M) s'):=by
 refine zf Tst.F63 (by simp [Tst.F63,Fn.mkX]) ?_
 simp only [Tst.F63,Fn.mkX,Tst.b63]
 have hlen:pv .len [wv]=some (.int .i64 (M.length:Int)):=by rw [hw.2];simp
 have hor:bitInt .or .i64 (wantOf k) 16=wantOf k+16∧wantOf k % 256=wantOf k∧(wantOf k+16) % 256=wantOf k+16:=by
  have:wantOf k=64∨wantOf k=128∨wantOf k=192:=by
   have:=hk.2.2
   unfold wantOf at this ⊢
   split
   ·exact .inl rfl
   ·rename_i h1
    rw [if_neg h1] at this
    split
    ·exact .inr (.inl rfl)
    ·rename_i h2
     rw [if_neg h2] at this
     split
     ·exact .inr (.inr rfl)
     ·rename_i h3;rw [if_neg h3] at this;exact absurd rfl this
  rcases this with h | h | h <;> rw [h] <;> decide
 have hk8:k % 256=k:=by omega
 simp only [↓vcPre,↓z0,↓reduceIte,vcPost,vcStd,Nat.reduceEqDiff,reduceCtorEq,Nat.reduceAdd,Nat.reduceLeDiff,Int.reduceLT,Int.reduceLE,↓u_setN]
 refine (c69 k).Q ?_
 simp only [hlen,↓vcPre,↓z0,↓reduceIte,vcPost,vcStd,Nat.reduceEqDiff,reduceCtorEq,Nat.reduceAdd,Nat.reduceLeDiff,Int.reduceLT,Int.reduceLE,↓u_setN]
 refine ⟨fun c1 => ?_,fun c1 => ?_⟩
 ·rw [hor.1]
  refine (qk h (by omega) _).Q ?_
  rintro r s1 ⟨rfl,h1⟩
  simp only [↓vcPre,↓z0,↓reduceIte,vcPost,vcStd,Nat.reduceEqDiff,reduceCtorEq,Nat.reduceAdd,Nat.reduceLeDiff,Int.reduceLT,Int.reduceLE,↓u_setN]
  refine (qk h1 (by simp [be1];omega) _).Q ?_
  rintro r s2 ⟨rfl,h2⟩
  simp only [hlen,↓vcPre,↓z0,↓reduceIte,vcPost,vcStd,Nat.reduceEqDiff,reduceCtorEq,Nat.reduceAdd,Nat.reduceLeDiff,Int.reduceLT,Int.reduceLE,↓u_setN]
  refine (zet h2 (by simp [be1];omega) _).Q ?_
  rintro r s3 ⟨rfl,h3⟩
  simp only [↓vcPre,↓z0,↓reduceIte,vcPost,vcStd,Nat.reduceEqDiff,reduceCtorEq,Nat.reduceAdd,Nat.reduceLeDiff,Int.reduceLT,Int.reduceLE,↓u_setN]
  refine (zat h3 hw (by simp [be1,be2];omega) (by omega)).Q ?_
  rintro r s4 ⟨rfl,h4⟩
  simp only [↓vcPre,↓z0,↓reduceIte,vcPost,vcStd,Nat.reduceEqDiff,reduceCtorEq,Nat.reduceAdd,Nat.reduceLeDiff,Int.reduceLT,Int.reduceLE,↓u_setN]
  refine EndQ.to _ _ rfl (Store.sub_refl _) ⟨rfl,?_⟩
  simp only [be1,be2,hor.2.2,hk8,List.append_assoc,List.cons_append,List.nil_append] at h4
  unfold oneA
  rw [if_pos (by omega)]
  exact h4
 ·refine (qk h (by omega) _).Q ?_
  rintro r s1 ⟨rfl,h1⟩
  simp only [↓vcPre,↓z0,↓reduceIte,vcPost,vcStd,Nat.reduceEqDiff,reduceCtorEq,Nat.reduceAdd,Nat.reduceLeDiff,Int.reduceLT,Int.reduceLE,↓u_setN]
  refine (qk h1 (by simp [be1];omega) _).Q ?_
  rintro r s2 ⟨rfl,h2⟩
  simp only [hlen,↓vcPre,↓z0,↓reduceIte,vcPost,vcStd,Nat.reduceEqDiff,reduceCtorEq,Nat.reduceAdd,Nat.reduceLeDiff,Int.reduceLT,Int.reduceLE,↓u_setN]
  refine (qk h2 (by simp [be1];omega) _).Q ?_
  rintro r s3 ⟨rfl,h3⟩
  simp only [↓vcPre,↓z0,↓reduceIte,vcPost,vcStd,Nat.reduceEqDiff,reduceCtorEq,Nat.reduceAdd,Nat.reduceLeDiff,Int.reduceLT,Int.reduceLE,↓u_setN]
  refine (zat h3 hw (by simp [be1];omega) (by omega)).Q ?_
  rintro r s4 ⟨rfl,h4⟩
  simp only [↓vcPre,↓z0,↓reduceIte,vcPost,vcStd,Nat.reduceEqDiff,reduceCtorEq,Nat.reduceAdd,Nat.reduceLeDiff,Int.reduceLT,Int.reduceLE,↓u_setN]
  refine EndQ.to _ _ rfl (Store.sub_refl _) ⟨rfl,?_⟩
  have e:(M.length:Int) % 256=(M.length:Int):=by omega
  simp only [be1,hor.2.1,hk8,e,List.append_assoc,List.cons_append,List.nil_append] at h4
  unfold oneA
  rw [if_neg (by omega)]
  exact h4
theorem z0m (l:List Int) (k:Nat) (h:k<l.length):encW (l.take (k+1))=encW (l.take k)++b4 l[k]:=by
 unfold encW
 rw [List.take_add_one,List.getElem?_eq_getElem h,List.flatMap_append]
 simp only [Option.toList_some,List.flatMap_cons,List.flatMap_nil,List.append_nil]
set_option maxRecDepth 20000 in
theorem s65 {σ:Store} {l:List Int} {v:AV} (hr:Rd 1 σ (l.map cU) v) (hl:l.length≤100000):ACalls Tryz.prog 65 [v] σ (fun r s=>s=σ∧r = .sl 1 ((encW l).map cB)):=by
 refine zf Tst.F65 (by simp [Tst.F65,Fn.mkX]) ?_
 simp only [Tst.F65,Fn.mkX,Tst.b65]
 have hlen:pv .len [v]=some (.int .i64 (l.length:Int)):=by rw [hr.2];simp
 simp only [↓vcPre,↓z0,↓reduceIte,vcPost,vcStd,Nat.reduceEqDiff,reduceCtorEq,Nat.reduceAdd,Nat.reduceLeDiff,Int.reduceLT,Int.reduceLE,↓u_setN]
 refine (s62 σ).Q ?_
 rintro r s ⟨id,rfl,hW⟩
 simp only [↓vcPre,↓z0,↓reduceIte,vcPost,vcStd,Nat.reduceEqDiff,reduceCtorEq,Nat.reduceAdd,Nat.reduceLeDiff,Int.reduceLT,Int.reduceLE,↓u_setN]
 rw [hlen,y7]
 refine LoopQ.inv (S:=Nat×Store) (fun q=>[(3,.ptr id 0),(7,v),(8,.int .i64 (l.length:Int)),(9,.int .i64 (q.1:Int))]) (fun q=>q.2) (fun q=>q.1≤l.length∧WI σ id (encW (l.take q.1)) q.2) (fun q=>l.length+1 - q.1) (0,s) rfl (Store.sub_refl _) ⟨by simp only;omega,by simpa [encW] using hW⟩ ?_
 rintro ⟨k,s⟩ ⟨hk,hW⟩
 simp only at hk hW
 simp only [↓vcPre,↓z0,↓reduceIte,vcPost,vcStd,Nat.reduceEqDiff,reduceCtorEq,Nat.reduceAdd,Nat.reduceLeDiff,Int.reduceLT,Int.reduceLE,↓u_setN]
 have hle:=zu (l.take k)
 rw [List.length_take] at hle
 refine ⟨fun c1 => ?_,fun c1 => ?_⟩
 ·have ek:IntKind.i64.wrap ((k:Int)+1)=((k+1:Nat):Int):=by rw [za (by unfold I64;omega)];omega
  obtain ⟨p,hp,hpr⟩:=hr.at (k:=k) (by simpa using c1)
  have hrd:=hpr s hW.2.1 1
  rw [List.getElem_map] at hrd
  simp only [hp,hrd,cU,↓vcPre,↓z0,↓reduceIte,vcPost,vcStd,Nat.reduceEqDiff,reduceCtorEq,Nat.reduceAdd,Nat.reduceLeDiff,Int.reduceLT,Int.reduceLE,↓u_setN]
  refine (zau hW (by omega) _).Q ?_
  rintro r s' ⟨rfl,h'⟩
  simp only [↓vcPre,↓z0,↓reduceIte,vcPost,vcStd,Nat.reduceEqDiff,reduceCtorEq,Nat.reduceAdd,Nat.reduceLeDiff,Int.reduceLT,Int.reduceLE,↓u_setN]
  rw [ek]
  rw [be4] at h'
  exact NextQ.to (k+1,s') rfl (Store.sub_refl _) (by simp only;omega) ⟨by simp only;omega,by rw [z0m _ _ c1];exact h'⟩
 ·have e:l.take k=l:=List.take_of_length_le (by omega)
  rw [e] at hW hle
  refine (s66 hW (by omega)).Q ?_
  rintro r s' ⟨rfl,rfl⟩
  simp only [↓vcPre,↓z0,↓reduceIte,vcPost,vcStd,Nat.reduceEqDiff,reduceCtorEq,Nat.reduceAdd,Nat.reduceLeDiff,Int.reduceLT,Int.reduceLE,↓u_setN]
  exact EndQ.to _ _ rfl hW.2.1 ⟨rfl,rfl⟩
end Go.Am
namespace Go.Am
open Go.Proofs Go.Sort
theorem inc_pt {l:List Int}:Inc l↔∀ i,∀ h:i+1<l.length,l[i]<l[i+1]:=by
 unfold Inc
 rw [List.pairwise_iff_getElem]
 constructor
 ·intro h i hi;exact h i (i+1) (by omega) hi (by omega)
 ·intro h i j hi hj hij
  induction j with
  | zero=>omega
  | succ j ih =>
    have h1:=h j hj
    by_cases e:i=j
    ·subst e;exact h1
    ·have:=ih (by omega) (by omega);omega
instance (l:List Int):Decidable (Inc l):=inferInstanceAs (Decidable (l.Pairwise (· < ·)))
instance (a:At):Decidable (atRight a):=inferInstanceAs (Decidable (_∧_∧_∧_∧_∧_∧_))
theorem zeg (s:Seg):Pur Tryz.prog 130 [.agg s.c] (.bool (decide (segRight s))):=by
 refine zl Tst.F130 (by simp [Tst.F130,Fn.mkX]) fun σ => ?_
 simp only [Tst.F130,Fn.mkX,Tst.b130]
 simp only [Seg.c,↓vcPre,↓z0,↓reduceIte,vcPost,vcStd,Nat.reduceEqDiff,reduceCtorEq,Nat.reduceAdd,Nat.reduceLeDiff,Int.reduceLT,Int.reduceLE,↓u_setN]
 refine AllocQ.i0 fun i hi => ?_
 simp only [Seg.c,↓vcPre,↓z0,↓reduceIte,vcPost,vcStd,Nat.reduceEqDiff,reduceCtorEq,Nat.reduceAdd,Nat.reduceLeDiff,Int.reduceLT,Int.reduceLE,↓u_setN]
 have hsb:=Store.sub_set σ i (.box [.int .i64 s.kind,.sl 1 (s.ls.map cU)]) hi
 (repeat' first
   | (refine ⟨fun _ => ?_,fun _ => ?_⟩)
   | (refine ⟨?_,hsb⟩)
   | (refine decide_eq_decide.2 ?_;unfold segRight;omega)
   | (symm;rw [decide_eq_false_iff_not];unfold segRight;omega)
   | (symm;rw [decide_eq_true_iff];unfold segRight;omega))
theorem c99 (l:List Seg) (hl:l.length≤1000000):Pur Tryz.prog 99 [.sl 2 (l.map Seg.c)] (.bool (decide (pathRight l))):=by
 refine zl Tst.F99 (by simp [Tst.F99,Fn.mkX]) fun σ => ?_
 simp only [Tst.F99,Fn.mkX,Tst.b99]
 simp only [↓vcPre,↓z0,↓reduceIte,vcPost,vcStd,Nat.reduceEqDiff,reduceCtorEq,Nat.reduceAdd,Nat.reduceLeDiff,Int.reduceLT,Int.reduceLE,↓u_setN]
 refine LoopQ.inv (S:=Nat) (fun k=>[(0,.sl 2 (l.map Seg.c)),(5,.sl 2 (l.map Seg.c)),(6,.int .i64 (l.length:Int)),(7,.int .i64 (k:Int))]) (fun _=>σ) (fun k=>k≤l.length∧∀ s ∈ l.take k,segRight s) (fun k=>l.length+1 - k) 0 rfl (Store.sub_refl _) ⟨by omega,by simp⟩ ?_
 rintro k ⟨hk,hr⟩
 simp only [↓vcPre,↓z0,↓reduceIte,vcPost,vcStd,Nat.reduceEqDiff,reduceCtorEq,Nat.reduceAdd,Nat.reduceLeDiff,Int.reduceLT,Int.reduceLE,↓u_setN]
 refine ⟨fun c1 => ?_,fun c1 => ?_⟩
 ·have ek:IntKind.i64.wrap ((k:Int)+1)=((k+1:Nat):Int):=by rw [za (by unfold I64;omega)];omega
  refine ⟨c1,by simp [Seg.c],?_⟩
  refine AllocQ.i0 fun i hi => ?_
  simp only [Seg.c,Store.set_set,↓vcPre,↓z0,↓reduceIte,vcPost,vcStd,Nat.reduceEqDiff,reduceCtorEq,Nat.reduceAdd,Nat.reduceLeDiff,Int.reduceLT,Int.reduceLE,↓u_setN]
  refine (zeg l[k]).Q ?_
  have hsb:=Store.sub_set σ i (.box [.int .i64 l[k].kind,.sl 1 (l[k].ls.map cU)]) hi
  by_cases g:segRight l[k]
  ·rw [decide_eq_true g]
   simp only [↓vcPre,↓z0,↓reduceIte,vcPost,vcStd,Nat.reduceEqDiff,reduceCtorEq,Nat.reduceAdd,Nat.reduceLeDiff,Int.reduceLT,Int.reduceLE,↓u_setN]
   rw [ek]
   refine NextQ.to (k+1) rfl hsb (by omega) ⟨by omega,fun s hs => ?_⟩
   rw [List.take_add_one,List.getElem?_eq_getElem c1] at hs
   rcases List.mem_append.1 hs with h | h
   ·exact hr s h
   ·simp at h;subst h;exact g
  ·rw [decide_eq_false g]
   simp only [↓vcPre,↓z0,↓reduceIte,vcPost,vcStd,Nat.reduceEqDiff,reduceCtorEq,Nat.reduceAdd,Nat.reduceLeDiff,Int.reduceLT,Int.reduceLE,↓u_setN]
   refine ⟨?_,hsb⟩
   rw [decide_eq_false (fun h:pathRight l=>g (h.1 _ (List.getElem_mem c1)))]
 ·have e:l.take k=l:=List.take_of_length_le (by omega)
  rw [e] at hr
  refine decide_eq_decide.2 ⟨fun h=>⟨hr,by omega⟩,fun h => ?_⟩
  have:=h.2;omega
theorem z50 (x:Int):x.fdiv 16777216=x / 16777216:=Int.fdiv_eq_ediv_of_nonneg _ (by omega)
theorem c31 (n:Int):Pur Tryz.prog 31 [.int .u32 n] (.bool (decide (goodN n))):=by
 refine zl Tst.F31 (by simp [Tst.F31,Fn.mkX]) fun σ => ?_
 simp only [Tst.F31,Fn.mkX,Tst.b31]
 have e:shrInt .u32 n 24=n / 16777216:=by
  simp [shrInt,IntKind.bits,z50]
 simp only [e,↓vcPre,↓z0,↓reduceIte,vcPost,vcStd,Nat.reduceEqDiff,reduceCtorEq,Nat.reduceAdd,Nat.reduceLeDiff,Int.reduceLT,Int.reduceLE,↓u_setN]
 have hsb:=Store.sub_refl σ
 (repeat' first
   | (refine ⟨fun _ => ?_,fun _ => ?_⟩)
   | (refine ⟨?_,hsb⟩)
   | (refine decide_eq_decide.2 ?_;unfold goodN;omega)
   | (symm;rw [decide_eq_false_iff_not];unfold goodN;omega)
   | (symm;rw [decide_eq_true_iff];unfold goodN;omega))
theorem zec (l:List Int) (hl:l.length≤1000000):Pur Tryz.prog 100 [.sl 1 (l.map cU)] (.bool (decide (Inc l))):=by
 refine zl Tst.F100 (by simp [Tst.F100,Fn.mkX]) fun σ => ?_
 simp only [Tst.F100,Fn.mkX,Tst.b100]
 simp only [↓vcPre,↓z0,↓reduceIte,vcPost,vcStd,Nat.reduceEqDiff,reduceCtorEq,Nat.reduceAdd,Nat.reduceLeDiff,Int.reduceLT,Int.reduceLE,↓u_setN]
 refine LoopQ.inv (S:=Nat) (fun k=>[(0,.sl 1 (l.map cU)),(3,.int .i64 ((k+1:Nat):Int))]) (fun _=>σ) (fun k=>k≤l.length∧∀ i,∀ h:i+1<l.length,i<k→l[i]<l[i+1]) (fun k=>l.length+1 - k) 0 rfl (Store.sub_refl _) ⟨by omega,fun i _ h=>by omega⟩ ?_
 rintro k ⟨hk,hr⟩
 simp only [↓vcPre,↓z0,↓reduceIte,vcPost,vcStd,Nat.reduceEqDiff,reduceCtorEq,Nat.reduceAdd,Nat.reduceLeDiff,Int.reduceLT,Int.reduceLE,↓u_setN]
 refine ⟨fun c1 => ?_,fun c1 => ?_⟩
 ·have ek:IntKind.i64.wrap (((k+1:Nat):Int)+1)=((k+1+1:Nat):Int):=by rw [za (by unfold I64;omega)];omega
  have em:IntKind.i64.wrap (((k+1:Nat):Int) - 1)=(k:Int):=by rw [za (by unfold I64;omega)];omega
  rw [em]
  simp only [Int.toNat_natCast]
  refine ⟨by omega,by omega,c1,by simp [cU],?_⟩
  simp only [cU,↓vcPre,↓z0,↓reduceIte,vcPost,vcStd,Nat.reduceEqDiff,reduceCtorEq,Nat.reduceAdd,Nat.reduceLeDiff,Int.reduceLT,Int.reduceLE,↓u_setN]
  refine ⟨fun g => ?_,fun g => ?_⟩
  ·rw [decide_eq_false (fun h:Inc l=>by have:=inc_pt.1 h k (by omega);omega)]
  ·rw [ek]
   refine NextQ.to (k+1) rfl (Store.sub_refl _) (by omega) ⟨by omega,fun i hi hik => ?_⟩
   by_cases e:i=k
   ·subst e;omega
   ·exact hr i hi (by omega)
 ·rw [decide_eq_true (inc_pt.2 fun i hi=>hr i hi (by omega))]
theorem c61 (a:At) (ha:a.ok):Pur Tryz.prog 61 [.agg a.c] (.bool (decide (atRight a))):=by
 refine zl Tst.F61 (by simp [Tst.F61,Fn.mkX]) fun σ => ?_
 simp only [Tst.F61,Fn.mkX,Tst.b61]
 simp only [At.c,↓vcPre,↓z0,↓reduceIte,vcPost,vcStd,Nat.reduceEqDiff,reduceCtorEq,Nat.reduceAdd,Nat.reduceLeDiff,Int.reduceLT,Int.reduceLE,↓u_setN]
 refine AllocQ.i0 fun i hi => ?_
 have hsb:=Store.sub_set σ i (.box a.c) hi
 have hTb:(σ.set i (.box a.c)) i=some (.box [.int .i64 a.org,.sl 2 (a.path.map Seg.c),.int .u32 a.nxt,.bool a.hm,.int .u32 a.med,.bool a.hp,.int .u32 a.prf,.bool a.atm,.sl 1 (a.cms.map cU)]):=Store.set_same _ _ _
 change bops _ _ _ (σ.set i (.box a.c)) _
 generalize σ.set i (.box a.c)=T at hsb hTb ⊢
 have no:¬ atRight a→false=decide (atRight a)∧Store.sub σ T:=fun h=>⟨by rw [decide_eq_false h],hsb⟩
 by_cases h1:a.org<0
 ·simp only [hTb,h1,↓vcPre,↓z0,↓reduceIte,vcPost,vcStd,Nat.reduceEqDiff,reduceCtorEq,Nat.reduceAdd,Nat.reduceLeDiff,Int.reduceLT,Int.reduceLE,↓u_setN]
  exact no fun h=>by have:=h.1;omega
 by_cases h2:2<a.org
 ·simp only [hTb,h1,h2,↓vcPre,↓z0,↓reduceIte,vcPost,vcStd,Nat.reduceEqDiff,reduceCtorEq,Nat.reduceAdd,Nat.reduceLeDiff,Int.reduceLT,Int.reduceLE,↓u_setN]
  exact no fun h=>by have:=h.1;omega
 simp only [hTb,h1,h2,↓vcPre,↓z0,↓reduceIte,vcPost,vcStd,Nat.reduceEqDiff,reduceCtorEq,Nat.reduceAdd,Nat.reduceLeDiff,Int.reduceLT,Int.reduceLE,↓u_setN]
 refine (c99 a.path ha.1).Q ?_
 by_cases g1:pathRight a.path
 case neg=>rw [decide_eq_false g1];simp only [↓vcPre,↓z0,↓reduceIte,vcPost,vcStd,Nat.reduceEqDiff,reduceCtorEq,Nat.reduceAdd,Nat.reduceLeDiff,Int.reduceLT,Int.reduceLE,↓u_setN];exact no fun h=>g1 h.2.1
 rw [decide_eq_true g1]
 simp only [hTb,↓vcPre,↓z0,↓reduceIte,vcPost,vcStd,Nat.reduceEqDiff,reduceCtorEq,Nat.reduceAdd,Nat.reduceLeDiff,Int.reduceLT,Int.reduceLE,↓u_setN]
 refine (c31 a.nxt).Q ?_
 by_cases g2:goodN a.nxt
 case neg=>rw [decide_eq_false g2];simp only [↓vcPre,↓z0,↓reduceIte,vcPost,vcStd,Nat.reduceEqDiff,reduceCtorEq,Nat.reduceAdd,Nat.reduceLeDiff,Int.reduceLT,Int.reduceLE,↓u_setN];exact no fun h=>g2 h.2.2.1
 rw [decide_eq_true g2]
 cases hm:a.hm <;> cases hp:a.hp
 all_goals
  simp only [hTb,hm,hp,↓vcPre,↓z0,↓reduceIte,vcPost,vcStd,Nat.reduceEqDiff,reduceCtorEq,Nat.reduceAdd,Nat.reduceLeDiff,Int.reduceLT,Int.reduceLE,↓u_setN]
  (repeat' first
    | (refine ⟨fun _ => ?_,fun _ => ?_⟩)
    | (exact no (fun h=>by have:=h.2.2.2.2.2.1;omega))
    | (exact no (fun h=>by have:=h.2.2.2;simp_all)))
 all_goals
  refine (zec a.cms (by have:=ha.2.2;omega)).Q ?_
  by_cases g3:Inc a.cms
  ·rw [decide_eq_true g3]
   simp only [↓vcPre,↓z0,↓reduceIte,vcPost,vcStd,Nat.reduceEqDiff,reduceCtorEq,Nat.reduceAdd,Nat.reduceLeDiff,Int.reduceLT,Int.reduceLE,↓u_setN]
   refine ⟨?_,hsb⟩
   symm
   rw [decide_eq_true_iff]
   exact ⟨⟨by omega,by omega⟩,g1,g2,by simp_all,by simp_all,by omega,g3⟩
  ·rw [decide_eq_false g3]
   simp only [↓vcPre,↓z0,↓reduceIte,vcPost,vcStd,Nat.reduceEqDiff,reduceCtorEq,Nat.reduceAdd,Nat.reduceLeDiff,Int.reduceLT,Int.reduceLE,↓u_setN]
   exact no fun h=>g3 h.2.2.2.2.2.2
end Go.Am
namespace Go.Am.Tsi
open Go.Proofs Go.Am.B
def t27_52:BC := .seq (z [f 52 8 1,l 53 1 52,u 54 .len 53,c 55 .gtr 54 0] [1,4,55] (.cond (.t 55) (.ops [m 56 4,f 57 8 1,l 58 1 57,g 59 65 [.t 58],g 60 63 [.t 56,.c (.int .i64 8),.t 59]] [4]) .skip)) (z [m 61 4,g 62 66 [.t 61],m 2 62,j 3 0] [2,3] .ret)
def t27_48:BC := .seq (z [f 48 7 1,l 49 1 48] [1,4,49] (.cond (.t 49) (.ops [m 50 4,g 51 63 [.t 50,.c (.int .i64 6),.c .nils]] [1,4]) .skip)) t27_52
def t27_40:BC := .seq (z [f 40 5 1,l 41 1 40] [1,4,41] (.cond (.t 41) (.ops [m 42 4,f 43 6 1,l 44 1 43,⟨some 45,none,.alloc (.mksl 1 1),[.t 44]⟩,g 46 65 [.t 45],g 47 63 [.t 42,.c (.int .i64 5),.t 46]] [1,4]) .skip)) t27_48
def t27_32:BC := .seq (z [f 32 3 1,l 33 1 32] [1,4,33] (.cond (.t 33) (.ops [m 34 4,f 35 4 1,l 36 1 35,⟨some 37,none,.alloc (.mksl 1 1),[.t 36]⟩,g 38 65 [.t 37],g 39 63 [.t 34,.c (.int .i64 4),.t 38]] [1,4]) .skip)) t27_40
def b27:BC:=z [⟨some 1,none,.alloc (.box),[.t 0]⟩,k 2 .nils,j 3 0] [1] (.seq (z [⟨some 7,none,.load (.ld 9 true),[.t 1]⟩,g 8 61 [.t 7],u 9 .not 8] [1,9] (.cond (.t 9) (z [k 2 .nils,j 3 12] [2,3] .ret) .skip)) (z [g 10 62 [],m 4 10] [1,4] (z [m 11 4,f 12 0 1,l 13 1 12,u 14 (.conv .u8) 13,⟨some 15,none,.alloc (.mksl 1 1),[.t 14]⟩,g 16 63 [.t 11,.c (.int .i64 1),.t 15]] [1,4] (z [f 18 1 1,l 19 1 18,g 20 64 [.t 19],m 17 20,e 21 0 17,e 22 1 17,m 5 21,m 6 22] [1,4,5] (z [m 23 4,m 24 5,g 25 63 [.t 23,.c (.int .i64 2),.t 24]] [1,4] (z [m 26 4,f 27 2 1,l 28 1 27,⟨some 29,none,.alloc (.mksl 1 1),[.t 28]⟩,g 30 65 [.t 29],g 31 63 [.t 26,.c (.int .i64 3),.t 30]] [1,4] t27_32))))))
def F27:Fn Tryz.prog 27:=Fn.mkX false b27 [.t 2,.t 3] 63 Tryz.f27 _ Tryz.func27 (by decide) rfl Tryz.ntmps27 (by kernel_rfl) (by kernel_rfl)
end Go.Am.Tsi
namespace Go.Am
open Go.Proofs Go.Sort
theorem Own.with {esz:Nat} {τ s:Store} {L:List (List AV)} {v:AV} {b:Nat} {o:Obj} (h:Own esz τ L v s) (hb:s b=none):Own esz (τ.set b o) L v (s.set b o):=by
 rcases h with h | ⟨g,h1,h2,h3⟩
 ·exact .inl h
 ·have hgb:¬ g=b:=fun e=>by rw [e,hb] at h3;cases h3
  exact .inr ⟨g,h1,by rw [Store.set_ne _ _ hgb];exact h2,by rw [Store.set_ne _ _ hgb];exact h3⟩
theorem WI.with {τ s:Store} {id b:Nat} {L:List Int} {o:Obj} (h:WI τ id L s) (hb:s b=none):WI (τ.set b o) id L (s.set b o):=by
 obtain ⟨h1,h2,v,h3,h4⟩:=h
 have hib:¬ id=b:=fun e=>by rw [e,hb] at h3;cases h3
 exact ⟨by rw [Store.set_ne _ _ hib];exact h1,um h2,v,by rw [Store.set_ne _ _ hib];exact h3,h4.with hb⟩
theorem WI.weak {τ τ' s:Store} {id:Nat} {L:List Int} (h:WI τ' id L s) (hs:Store.sub τ τ'):WI τ id L s:=by
 obtain ⟨h1,h2,v,h3,h4⟩:=h
 exact ⟨zi hs h1,Store.sub_trans hs h2,v,h3,h4.weak hs⟩
theorem ub (l:List Seg) (k:Nat) (h:k<l.length):encPath (l.take (k+1))=encPath (l.take k)++encSeg l[k]:=by
 unfold encPath
 rw [List.take_add_one,List.getElem?_eq_getElem h,List.flatMap_append]
 simp only [Option.toList_some,List.flatMap_cons,List.flatMap_nil,List.append_nil]
theorem z09 {l:List Seg} (h:pathRight l) (k:Nat):pathRight (l.take k):=⟨fun s hs=>h.1 s (List.mem_of_mem_take hs),by rw [List.length_take];have:=h.2;omega⟩
theorem c64 (l:List Seg) (hl:l.length≤1000000) (hr:pathRight l):Pur Tryz.prog 64 [.sl 2 (l.map Seg.c)] (.tup [.sl 1 ((encPath l).map cB),.int .i64 0]):=by
 intro σ
 refine zf Tst.F64 (by simp [Tst.F64,Fn.mkX]) ?_
 simp only [Tst.F64,Fn.mkX,Tst.b64]
 simp only [↓vcPre,↓z0,↓reduceIte,vcPost,vcStd,Nat.reduceEqDiff,reduceCtorEq,Nat.reduceAdd,Nat.reduceLeDiff,Int.reduceLT,Int.reduceLE,↓u_setN]
 refine (c99 l hl).Q ?_
 rw [decide_eq_true hr]
 simp only [↓vcPre,↓z0,↓reduceIte,vcPost,vcStd,Nat.reduceEqDiff,reduceCtorEq,Nat.reduceAdd,Nat.reduceLeDiff,Int.reduceLT,Int.reduceLE,↓u_setN]
 refine (s62 σ).Q ?_
 rintro r s ⟨id,rfl,hW⟩
 simp only [↓vcPre,↓z0,↓reduceIte,vcPost,vcStd,Nat.reduceEqDiff,reduceCtorEq,Nat.reduceAdd,Nat.reduceLeDiff,Int.reduceLT,Int.reduceLE,↓u_setN]
 refine LoopQ.inv (S:=Nat×Store) (fun q=>[(4,.ptr id 0),(13,.sl 2 (l.map Seg.c)),(14,.int .i64 (l.length:Int)),(15,.int .i64 (q.1:Int))]) (fun q=>q.2) (fun q=>q.1≤l.length∧WI σ id (encPath (l.take q.1)) q.2) (fun q=>l.length+1 - q.1) (0,s) rfl (Store.sub_refl _) ⟨by simp only;omega,by simpa [encPath] using hW⟩ ?_
 rintro ⟨k,s⟩ ⟨hk,hW⟩
 simp only at hk hW
 simp only [↓vcPre,↓z0,↓reduceIte,vcPost,vcStd,Nat.reduceEqDiff,reduceCtorEq,Nat.reduceAdd,Nat.reduceLeDiff,Int.reduceLT,Int.reduceLE,↓u_setN]
 have hlen:=xn (z09 hr k)
 refine ⟨fun c1 => ?_,fun c1 => ?_⟩
 ·have ek:IntKind.i64.wrap ((k:Int)+1)=((k+1:Nat):Int):=by rw [za (by unfold I64;omega)];omega
  have hsr:=hr.1 _ (List.getElem_mem c1)
  refine ⟨c1,by simp [Seg.c],?_⟩
  refine AllocQ.i0 fun i hi => ?_
  simp only [Seg.c,Store.set_set,↓vcPre,↓z0,↓reduceIte,vcPost,vcStd,Nat.reduceEqDiff,reduceCtorEq,Nat.reduceAdd,Nat.reduceLeDiff,Int.reduceLT,Int.reduceLE,↓u_setN]
  have hT:=hW.with (b:=i) (o := .box [.int .i64 l[k].kind,.sl 1 (l[k].ls.map cU)]) hi
  have hτi:σ i=none:=zi hW.2.1 hi
  have hTi:(σ.set i (.box [.int .i64 l[k].kind,.sl 1 (l[k].ls.map cU)])) i=some (.box [.int .i64 l[k].kind,.sl 1 (l[k].ls.map cU)]):=Store.set_same _ _ _
  have hσT:Store.sub σ (σ.set i (.box [.int .i64 l[k].kind,.sl 1 (l[k].ls.map cU)])):=Store.sub_set _ _ _ hτi
  generalize σ.set i (.box [.int .i64 l[k].kind,.sl 1 (l[k].ls.map cU)])=σ' at hT hTi hσT
  generalize s.set i (.box [.int .i64 l[k].kind,.sl 1 (l[k].ls.map cU)])=T at hT ⊢
  refine (qk hT (by omega) _).Q ?_
  rintro r s1 ⟨rfl,h1⟩
  simp only [h1.2.1 _ _ hTi,↓vcPre,↓z0,↓reduceIte,vcPost,vcStd,Nat.reduceEqDiff,reduceCtorEq,Nat.reduceAdd,Nat.reduceLeDiff,Int.reduceLT,Int.reduceLE,↓u_setN]
  refine (qk h1 (by simp [be1];omega) _).Q ?_
  rintro r s2 ⟨rfl,h2⟩
  simp only [h2.2.1 _ _ hTi,↓vcPre,↓z0,↓reduceIte,vcPost,vcStd,Nat.reduceEqDiff,reduceCtorEq,Nat.reduceAdd,Nat.reduceLeDiff,Int.reduceLT,Int.reduceLE,↓u_setN]
  have hseg:=hsr.2.2
  refine LoopQ.inv (S:=Nat×Store) (fun q=>[(4,.ptr id 0),(13,.sl 2 (l.map Seg.c)),(14,.int .i64 (l.length:Int)),(15,.int .i64 (k:Int)),(29,.sl 1 (l[k].ls.map cU)),(30,.int .i64 (l[k].ls.length:Int)),(31,.int .i64 (q.1:Int))]) (fun q=>q.2) (fun q=>q.1≤l[k].ls.length∧WI σ' id (encPath (l.take k)++beN 1 (IntKind.u64.wrap l[k].kind)++beN 1 (IntKind.u64.wrap (l[k].ls.length:Int))++encW (l[k].ls.take q.1)) q.2) (fun q=>l[k].ls.length+1 - q.1) (0,s2) rfl (Store.sub_refl _) ⟨by simp only;omega,by simpa [encW] using h2⟩ ?_
  rintro ⟨j,s3⟩ ⟨hj,h3⟩
  simp only at hj h3
  simp only [↓vcPre,↓z0,↓reduceIte,vcPost,vcStd,Nat.reduceEqDiff,reduceCtorEq,Nat.reduceAdd,Nat.reduceLeDiff,Int.reduceLT,Int.reduceLE,↓u_setN]
  have hle:=zu (l[k].ls.take j)
  rw [List.length_take] at hle
  refine ⟨fun d1 => ?_,fun d1 => ?_⟩
  ·have ej:IntKind.i64.wrap ((j:Int)+1)=((j+1:Nat):Int):=by rw [za (by unfold I64;omega)];omega
   refine ⟨d1,by simp [cU],?_⟩
   simp only [cU,↓vcPre,↓z0,↓reduceIte,vcPost,vcStd,Nat.reduceEqDiff,reduceCtorEq,Nat.reduceAdd,Nat.reduceLeDiff,Int.reduceLT,Int.reduceLE,↓u_setN]
   refine (zau h3 (by simp [be1];omega) _).Q ?_
   rintro r s4 ⟨rfl,h4⟩
   simp only [↓vcPre,↓z0,↓reduceIte,vcPost,vcStd,Nat.reduceEqDiff,reduceCtorEq,Nat.reduceAdd,Nat.reduceLeDiff,Int.reduceLT,Int.reduceLE,↓u_setN]
   rw [ej]
   rw [be4] at h4
   exact NextQ.to (j+1,s4) rfl (Store.sub_refl _) (by simp only;omega) ⟨by simp only;omega,by rw [z0m _ _ d1,←List.append_assoc];exact h4⟩
  ·have e:l[k].ls.take j=l[k].ls:=List.take_of_length_le (by omega)
   rw [e] at h3
   rw [ek]
   refine NextQ.to (k+1,s3) rfl (Store.sub_refl _) (by simp only;omega) ⟨by simp only;omega,?_⟩
   simp only
   rw [ub _ _ c1]
   simp only [be1] at h3
   simp only [encSeg,List.append_assoc,List.cons_append,List.nil_append] at h3 ⊢
   exact h3.weak hσT
 ·have e:l.take k=l:=List.take_of_length_le (by omega)
  rw [e] at hW hlen
  refine (s66 hW (by omega)).Q ?_
  rintro r s' ⟨rfl,rfl⟩
  simp only [↓vcPre,↓z0,↓reduceIte,vcPost,vcStd,Nat.reduceEqDiff,reduceCtorEq,Nat.reduceAdd,Nat.reduceLeDiff,Int.reduceLT,Int.reduceLE,↓u_setN]
  exact EndQ.to _ _ rfl hW.2.1 ⟨rfl,rfl⟩
theorem z30 {a:At} (h:atRight a):(encA a).length≤20000:=by
 obtain ⟨r1,r2,r3,r4,r5,r6,r7⟩:=h
 have h1:=xn r2
 have h2:=zu a.cms
 unfold encA
 simp only [List.length_append]
 have ol:∀ fl k v,(oneA fl k v).length≤4+v.length:=fun fl k v=>by rw [x7];split <;> omega
 have o1:=ol 64 1 [a.org % 256]
 have o2:=ol 64 2 (encPath a.path)
 have o3:=ol 64 3 (b4 a.nxt)
 have o4:=ol 128 4 (b4 a.med)
 have o5:=ol 64 5 (b4 a.prf)
 have o6:=ol 64 6 []
 have o8:=ol 192 8 (encW a.cms)
 have hb:∀ n,(b4 n).length=4:=fun _=>rfl
 simp only [hb,List.length_cons,List.length_nil] at o1 o2 o3 o4 o5 o6 o8
 split <;> split <;> split <;> split <;> (try simp only [List.length_nil]) <;> omega
def boxC (a:At):Obj := .box [.int .i64 a.org,.sl 2 (a.path.map Seg.c),.int .u32 a.nxt,.bool a.hm,.int .u32 a.med,.bool a.hp,.int .u32 a.prf,.bool a.atm,.sl 1 (a.cms.map cU)]
theorem xk (fl k:Int) (v:List Int):(oneA fl k v).length≤4+v.length:=by rw [x7];split <;> omega
theorem xp (n:Int):(b4 n).length=4:=rfl
theorem z3u (n:Int):encW [n]=b4 n:=by simp [encW]
theorem z0y (a:At) (ha:a.ok) (h8:a.cms.length≤32) {T s:Store} {i id:Nat} {L:List Int} (hTi:T i=some (boxC a)) (h:WI T id L s) (hL:L.length≤100000) {n r:Env→Store→Prop} {x:Nat→Env→Store→Prop}
 (hr:∀ s',Store.sub T s'→r [(2,.sl 1 ((L++(if a.cms=[] then [] else oneA 192 8 (encW a.cms))).map cB)),(3,.int .i64 0)] s'):bwp Tryz.prog Tsi.t27_52 [(1,.ptr i 0),(4,.ptr id 0)] s n r x:=by
 simp only [Tsi.t27_52]
 have hi:=h.2.1 _ _ hTi
 simp only [hi,boxC,↓vcPre,↓z0,↓reduceIte,vcPost,vcStd,Nat.reduceEqDiff,reduceCtorEq,Nat.reduceAdd,Nat.reduceLeDiff,Int.reduceLT,Int.reduceLE,↓u_setN]
 have hc:=zu a.cms
 refine ⟨fun c1 => ?_,fun c1 => ?_⟩
 ·refine (s65 (l:=a.cms) Rd.sl (by omega)).Q ?_
  rintro r' s' ⟨rfl,rfl⟩
  simp only [↓vcPre,↓z0,↓reduceIte,vcPost,vcStd,Nat.reduceEqDiff,reduceCtorEq,Nat.reduceAdd,Nat.reduceLeDiff,Int.reduceLT,Int.reduceLE,↓u_setN]
  refine (s63 h 8 (by decide) Rd.sl (by omega) (by omega)).Q ?_
  rintro r' s1 ⟨rfl,h1⟩
  simp only [↓vcPre,↓z0,↓reduceIte,vcPost,vcStd,Nat.reduceEqDiff,reduceCtorEq,Nat.reduceAdd,Nat.reduceLeDiff,Int.reduceLT,Int.reduceLE,↓u_setN]
  have hl:=xk (wantOf 8) 8 (encW a.cms)
  refine (s66 h1 (by rw [List.length_append];omega)).Q ?_
  rintro r' s2 ⟨rfl,rfl⟩
  simp only [↓vcPre,↓z0,↓reduceIte,vcPost,vcStd,Nat.reduceEqDiff,reduceCtorEq,Nat.reduceAdd,Nat.reduceLeDiff,Int.reduceLT,Int.reduceLE,↓u_setN]
  have:=hr s2 h1.2.1
  rw [if_neg (fun e=>by rw [e] at c1;simp at c1)] at this
  exact this
 ·refine (s66 h (by omega)).Q ?_
  rintro r' s2 ⟨rfl,rfl⟩
  simp only [↓vcPre,↓z0,↓reduceIte,vcPost,vcStd,Nat.reduceEqDiff,reduceCtorEq,Nat.reduceAdd,Nat.reduceLeDiff,Int.reduceLT,Int.reduceLE,↓u_setN]
  have:=hr s2 h.2.1
  rw [if_pos (List.length_eq_zero_iff.1 (by omega)),List.append_nil] at this
  exact this
theorem z0x (a:At) (ha:a.ok) (h8:a.cms.length≤32) {T s:Store} {i id:Nat} {L:List Int} (hTi:T i=some (boxC a)) (h:WI T id L s) (hL:L.length≤90000) {n r:Env→Store→Prop} {x:Nat→Env→Store→Prop}
 (hr:∀ s',Store.sub T s'→r [(2,.sl 1 ((L++(if a.atm then oneA 64 6 [] else [])++(if a.cms=[] then [] else oneA 192 8 (encW a.cms))).map cB)),(3,.int .i64 0)] s'):bwp Tryz.prog Tsi.t27_48 [(1,.ptr i 0),(4,.ptr id 0)] s n r x:=by
 simp only [Tsi.t27_48]
 have hi:=h.2.1 _ _ hTi
 cases g:a.atm
 ·simp only [hi,boxC,g,↓vcPre,↓z0,↓reduceIte,vcPost,vcStd,Nat.reduceEqDiff,reduceCtorEq,Nat.reduceAdd,Nat.reduceLeDiff,Int.reduceLT,Int.reduceLE,↓u_setN]
  refine z0y a ha h8 hTi h (by omega) fun s' hs' => ?_
  have:=hr s' hs'
  rw [g] at this
  simpa using this
 ·simp only [hi,boxC,g,↓vcPre,↓z0,↓reduceIte,vcPost,vcStd,Nat.reduceEqDiff,reduceCtorEq,Nat.reduceAdd,Nat.reduceLeDiff,Int.reduceLT,Int.reduceLE,↓u_setN]
  refine (s63 h 6 (by decide) (M:=[]) Rd.nils (by omega) (by simp)).Q ?_
  rintro r' s1 ⟨rfl,h1⟩
  simp only [↓vcPre,↓z0,↓reduceIte,vcPost,vcStd,Nat.reduceEqDiff,reduceCtorEq,Nat.reduceAdd,Nat.reduceLeDiff,Int.reduceLT,Int.reduceLE,↓u_setN]
  refine z0y a ha h8 hTi h1 (by have:=xk (wantOf 6) 6 [];simp at this ⊢;omega) fun s' hs' => ?_
  have:=hr s' hs'
  rw [g] at this
  exact this
theorem z0w (a:At) (ha:a.ok) (h8:a.cms.length≤32) {T s:Store} {i id:Nat} {L:List Int} (hTi:T i=some (boxC a)) (h:WI T id L s) (hL:L.length≤80000) {n r:Env→Store→Prop} {x:Nat→Env→Store→Prop}
 (hr:∀ s',Store.sub T s'→r [(2,.sl 1 ((L++(if a.hp then oneA 64 5 (b4 a.prf) else [])++(if a.atm then oneA 64 6 [] else [])++(if a.cms=[] then [] else oneA 192 8 (encW a.cms))).map cB)),(3,.int .i64 0)] s'):bwp Tryz.prog Tsi.t27_40 [(1,.ptr i 0),(4,.ptr id 0)] s n r x:=by
 simp only [Tsi.t27_40]
 have hi:=h.2.1 _ _ hTi
 cases g:a.hp
 ·simp only [hi,boxC,g,↓vcPre,↓z0,↓reduceIte,vcPost,vcStd,Nat.reduceEqDiff,reduceCtorEq,Nat.reduceAdd,Nat.reduceLeDiff,Int.reduceLT,Int.reduceLE,↓u_setN]
  refine z0x a ha h8 hTi h (by omega) fun s' hs' => ?_
  have:=hr s' hs'
  rw [g] at this
  simpa using this
 ·have hTi5:=(h).2.1 _ _ hTi
  simp only [hTi5,boxC,g,↓vcPre,↓z0,↓reduceIte,vcPost,vcStd,Nat.reduceEqDiff,reduceCtorEq,Nat.reduceAdd,Nat.reduceLeDiff,Int.reduceLT,Int.reduceLE,↓u_setN]
  refine AllocQ.i0 fun b hb => ?_
  simp only [↓vcPre,↓z0,↓reduceIte,vcPost,vcStd,Nat.reduceEqDiff,reduceCtorEq,Nat.reduceAdd,Nat.reduceLeDiff,Int.reduceLT,Int.reduceLE,↓u_setN]
  refine (s65 (l:=[a.prf]) (Rd.os (L:=[a.prf].map cU) (Store.set_same _ _ _)) (by simp)).Q ?_
  rintro r s' ⟨rfl,rfl⟩
  rw [z3u]
  simp only [↓vcPre,↓z0,↓reduceIte,vcPost,vcStd,Nat.reduceEqDiff,reduceCtorEq,Nat.reduceAdd,Nat.reduceLeDiff,Int.reduceLT,Int.reduceLE,↓u_setN]
  have hw:=(h).mono (Store.sub_set _ b (.arr 1 [[.int .u32 a.prf]]) hb)
  refine (s63 hw 5 (by decide) Rd.sl (by omega) (by rw [xp];omega)).Q ?_
  rintro r s1 ⟨rfl,h1⟩
  have hl5:=xk (wantOf 5) 5 (b4 a.prf)
  rw [xp] at hl5
  simp only [↓vcPre,↓z0,↓reduceIte,vcPost,vcStd,Nat.reduceEqDiff,reduceCtorEq,Nat.reduceAdd,Nat.reduceLeDiff,Int.reduceLT,Int.reduceLE,↓u_setN]
  refine z0x a ha h8 hTi h1 (by rw [List.length_append];omega) fun s' hs' => ?_
  have:=hr s' hs'
  rw [g] at this
  exact this
theorem z5l (a:At) (ha:a.ok) (h8:a.cms.length≤32) {T s:Store} {i id:Nat} {L:List Int} (hTi:T i=some (boxC a)) (h:WI T id L s) (hL:L.length≤70000) {n r:Env→Store→Prop} {x:Nat→Env→Store→Prop}
 (hr:∀ s',Store.sub T s'→r [(2,.sl 1 ((L++(if a.hm then oneA 128 4 (b4 a.med) else [])++(if a.hp then oneA 64 5 (b4 a.prf) else [])++(if a.atm then oneA 64 6 [] else [])++(if a.cms=[] then [] else oneA 192 8 (encW a.cms))).map cB)),(3,.int .i64 0)] s'):bwp Tryz.prog Tsi.t27_32 [(1,.ptr i 0),(4,.ptr id 0)] s n r x:=by
 simp only [Tsi.t27_32]
 have hi:=h.2.1 _ _ hTi
 cases g:a.hm
 ·simp only [hi,boxC,g,↓vcPre,↓z0,↓reduceIte,vcPost,vcStd,Nat.reduceEqDiff,reduceCtorEq,Nat.reduceAdd,Nat.reduceLeDiff,Int.reduceLT,Int.reduceLE,↓u_setN]
  refine z0w a ha h8 hTi h (by omega) fun s' hs' => ?_
  have:=hr s' hs'
  rw [g] at this
  simpa using this
 ·have hTi4:=(h).2.1 _ _ hTi
  simp only [hTi4,boxC,g,↓vcPre,↓z0,↓reduceIte,vcPost,vcStd,Nat.reduceEqDiff,reduceCtorEq,Nat.reduceAdd,Nat.reduceLeDiff,Int.reduceLT,Int.reduceLE,↓u_setN]
  refine AllocQ.i0 fun b hb => ?_
  simp only [↓vcPre,↓z0,↓reduceIte,vcPost,vcStd,Nat.reduceEqDiff,reduceCtorEq,Nat.reduceAdd,Nat.reduceLeDiff,Int.reduceLT,Int.reduceLE,↓u_setN]
  refine (s65 (l:=[a.med]) (Rd.os (L:=[a.med].map cU) (Store.set_same _ _ _)) (by simp)).Q ?_
  rintro r s' ⟨rfl,rfl⟩
  rw [z3u]
  simp only [↓vcPre,↓z0,↓reduceIte,vcPost,vcStd,Nat.reduceEqDiff,reduceCtorEq,Nat.reduceAdd,Nat.reduceLeDiff,Int.reduceLT,Int.reduceLE,↓u_setN]
  have hw:=(h).mono (Store.sub_set _ b (.arr 1 [[.int .u32 a.med]]) hb)
  refine (s63 hw 4 (by decide) Rd.sl (by omega) (by rw [xp];omega)).Q ?_
  rintro r s1 ⟨rfl,h1⟩
  have hl4:=xk (wantOf 4) 4 (b4 a.med)
  rw [xp] at hl4
  simp only [↓vcPre,↓z0,↓reduceIte,vcPost,vcStd,Nat.reduceEqDiff,reduceCtorEq,Nat.reduceAdd,Nat.reduceLeDiff,Int.reduceLT,Int.reduceLE,↓u_setN]
  refine z0w a ha h8 hTi h1 (by rw [List.length_append];omega) fun s' hs' => ?_
  have:=hr s' hs'
  rw [g] at this
  exact this
set_option maxHeartbeats 600000 in
theorem c27 (a:At) (ha:a.ok):Pur Tryz.prog 27 [.agg a.c] (.tup [.sl 1 ((if atRight a then encA a else []).map cB),.int .i64 (if atRight a then 0 else 12)]):=by
 intro σ
 refine zf Tsi.F27 (by simp [Tsi.F27,Fn.mkX]) ?_
 simp only [Tsi.F27,Fn.mkX,Tsi.b27]
 simp only [↓vcPre,↓z0,↓reduceIte,vcPost,vcStd,Nat.reduceEqDiff,reduceCtorEq,Nat.reduceAdd,Nat.reduceLeDiff,Int.reduceLT,Int.reduceLE,↓u_setN]
 refine AllocQ.i0 fun i hi => ?_
 have e9:∀ x:At,x.c.length=9:=fun _=>rfl
 have t9:∀ x:At,List.take 9 x.c=x.c:=fun _=>rfl
 simp only [e9,t9,Nat.le_refl,↓vcPre,↓z0,↓reduceIte,vcPost,vcStd,Nat.reduceEqDiff,reduceCtorEq,Nat.reduceAdd,Nat.reduceLeDiff,Int.reduceLT,Int.reduceLE,↓u_setN]
 have hsb:=Store.sub_set σ i (.box a.c) hi
 have hTi:(σ.set i (.box a.c)) i=some (boxC a):=Store.set_same _ _ _
 generalize σ.set i (.box a.c)=T at hsb hTi ⊢
 refine (c61 a ha).Q ?_
 by_cases hr:atRight a
 case neg =>
  rw [decide_eq_false hr]
  simp only [↓vcPre,↓z0,↓reduceIte,vcPost,vcStd,Nat.reduceEqDiff,reduceCtorEq,Nat.reduceAdd,Nat.reduceLeDiff,Int.reduceLT,Int.reduceLE,↓u_setN]
  rw [if_neg hr,if_neg hr]
  exact EndQ.twoNil (.int .i64 12) 1 σ rfl hsb ⟨rfl,rfl⟩
 rw [decide_eq_true hr,if_pos hr,if_pos hr]
 have hall:=z30 hr
 obtain ⟨r1,r2,r3,r4,r5,r6,r7⟩:=id hr
 have hpl:=xn r2
 simp only [↓vcPre,↓z0,↓reduceIte,vcPost,vcStd,Nat.reduceEqDiff,reduceCtorEq,Nat.reduceAdd,Nat.reduceLeDiff,Int.reduceLT,Int.reduceLE,↓u_setN]
 refine (s62 T).Q ?_
 rintro r s0 ⟨id,rfl,h0⟩
 have hT0:=h0.2.1 _ _ hTi
 simp only [hT0,boxC,↓vcPre,↓z0,↓reduceIte,vcPost,vcStd,Nat.reduceEqDiff,reduceCtorEq,Nat.reduceAdd,Nat.reduceLeDiff,Int.reduceLT,Int.reduceLE,↓u_setN]
 refine AllocQ.i0 fun b hb => ?_
 simp only [↓vcPre,↓z0,↓reduceIte,vcPost,vcStd,Nat.reduceEqDiff,reduceCtorEq,Nat.reduceAdd,Nat.reduceLeDiff,Int.reduceLT,Int.reduceLE,↓u_setN]
 refine (s63 (h0.with (o := .arr 1 [cB (IntKind.u8.wrap a.org)]) hb) 1 (by decide) (M:=[IntKind.u8.wrap a.org]) (Rd.os (Store.set_same _ _ _)) (by simp) (by simp)).Q ?_
 rintro r s1 ⟨rfl,h1⟩
 have h1:=h1.weak (Store.sub_set _ _ _ (zi h0.2.1 hb))
 have hl1:=xk (wantOf 1) 1 [IntKind.u8.wrap a.org]
 have hT1:=h1.2.1 _ _ hTi
 simp only [hT1,boxC,↓vcPre,↓z0,↓reduceIte,vcPost,vcStd,Nat.reduceEqDiff,reduceCtorEq,Nat.reduceAdd,Nat.reduceLeDiff,Int.reduceLT,Int.reduceLE,↓u_setN]
 refine (c64 a.path ha.1 r2).Q ?_
 simp only [↓vcPre,↓z0,↓reduceIte,vcPost,vcStd,Nat.reduceEqDiff,reduceCtorEq,Nat.reduceAdd,Nat.reduceLeDiff,Int.reduceLT,Int.reduceLE,↓u_setN]
 refine (s63 h1 2 (by decide) Rd.sl (by simp at hl1 ⊢;omega) (by omega)).Q ?_
 rintro r s2 ⟨rfl,h2⟩
 have hl2:=xk (wantOf 2) 2 (encPath a.path)
 have hlen2:([]++oneA (wantOf 1) 1 [IntKind.u8.wrap a.org]++oneA (wantOf 2) 2 (encPath a.path)).length≤20000:=by simp at hl1 hl2 ⊢;omega
 simp only [↓vcPre,↓z0,↓reduceIte,vcPost,vcStd,Nat.reduceEqDiff,reduceCtorEq,Nat.reduceAdd,Nat.reduceLeDiff,Int.reduceLT,Int.reduceLE,↓u_setN]
 have hTi2:=(h2).2.1 _ _ hTi
 simp only [hTi2,boxC,e9,↓vcPre,↓z0,↓reduceIte,vcPost,vcStd,Nat.reduceEqDiff,reduceCtorEq,Nat.reduceAdd,Nat.reduceLeDiff,Int.reduceLT,Int.reduceLE,↓u_setN]
 refine AllocQ.i0 fun b hb => ?_
 simp only [↓vcPre,↓z0,↓reduceIte,vcPost,vcStd,Nat.reduceEqDiff,reduceCtorEq,Nat.reduceAdd,Nat.reduceLeDiff,Int.reduceLT,Int.reduceLE,↓u_setN]
 refine (s65 (l:=[a.nxt]) (Rd.os (L:=[a.nxt].map cU) (Store.set_same _ _ _)) (by simp)).Q ?_
 rintro r s' ⟨rfl,rfl⟩
 rw [z3u]
 simp only [↓vcPre,↓z0,↓reduceIte,vcPost,vcStd,Nat.reduceEqDiff,reduceCtorEq,Nat.reduceAdd,Nat.reduceLeDiff,Int.reduceLT,Int.reduceLE,↓u_setN]
 have hw:=(h2).mono (Store.sub_set _ b (.arr 1 [[.int .u32 a.nxt]]) hb)
 refine (s63 hw 3 (by decide) Rd.sl (by omega) (by rw [xp];omega)).Q ?_
 rintro r s3 ⟨rfl,h3⟩
 have hl2:=xk (wantOf 3) 3 (b4 a.nxt)
 rw [xp] at hl2
 simp only [↓vcPre,↓z0,↓reduceIte,vcPost,vcStd,Nat.reduceEqDiff,reduceCtorEq,Nat.reduceAdd,Nat.reduceLeDiff,Int.reduceLT,Int.reduceLE,↓u_setN]
 refine z5l a ha r6 hTi h3 (by rw [List.length_append];omega) fun s' hs' => ?_
 refine EndQ.to _ _ rfl (Store.sub_trans hsb hs') ⟨rfl,?_⟩
 simp only [encA,u8w,List.nil_append]
 rfl
end Go.Am
namespace Go.Am
open Go.Proofs Go.Sort
theorem z01 {x y:Int} (h:¬ x=y):sideF (decide (x<y))=cmpI x y:=by
 unfold sideF cmpI
 by_cases g:x<y
 ·simp [g]
 ·simp [g];omega
theorem z4b {x y:Bool} (h:¬ x=y):sideF (!x)=IntKind.i64.wrap (truthF x - truthF y):=by
 cases x <;> cases y <;> first | exact absurd rfl h | decide
set_option maxHeartbeats 1000000 in
theorem zfe (a b:At) (ha:a.ok) (hb:b.ok) (σ:Store):ACalls Tryz.prog 75 [.agg a.c,.agg b.c] σ (fun r s=>s=σ∧r = .int .i64 (cmpAs (canonA a) (canonA b))):=by
 refine zf Tst.F75 (by simp [Tst.F75,Fn.mkX]) ?_
 simp only [Tst.F75,Fn.mkX,Tst.b75]
 simp only [At.c,↓vcPre,↓z0,↓reduceIte,vcPost,vcStd,Nat.reduceEqDiff,reduceCtorEq,Nat.reduceAdd,Nat.reduceLeDiff,Int.reduceLT,Int.reduceLE,↓u_setN]
 refine AllocQ.i0 fun i hi => ?_
 simp only [At.c,↓vcPre,↓z0,↓reduceIte,vcPost,vcStd,Nat.reduceEqDiff,reduceCtorEq,Nat.reduceAdd,Nat.reduceLeDiff,Int.reduceLT,Int.reduceLE,↓u_setN]
 refine AllocQ.i1 fun j hj1 hj2 hj => ?_
 simp only [hj1,hj2,↓vcPre,↓z0,↓reduceIte,vcPost,vcStd,Nat.reduceEqDiff,reduceCtorEq,Nat.reduceAdd,Nat.reduceLeDiff,Int.reduceLT,Int.reduceLE,↓u_setN]
 refine (c41 a ha).Q ?_
 simp only [hj1,hj2,↓vcPre,↓z0,↓reduceIte,vcPost,vcStd,Nat.reduceEqDiff,reduceCtorEq,Nat.reduceAdd,Nat.reduceLeDiff,Int.reduceLT,Int.reduceLE,↓u_setN]
 refine (c41 b hb).Q ?_
 simp only [hj1,hj2,↓vcPre,↓z0,↓reduceIte,vcPost,vcStd,Nat.reduceEqDiff,reduceCtorEq,Nat.reduceAdd,Nat.reduceLeDiff,Int.reduceLT,Int.reduceLE,↓u_setN]
 have hx:=wm ha
 have hy:=wm hb
 generalize canonA a=p at hx ⊢
 generalize canonA b=q at hy ⊢
 simp only [hj1,hj2,At.c,↓vcPre,↓z0,↓reduceIte,vcPost,vcStd,Nat.reduceEqDiff,reduceCtorEq,Nat.reduceAdd,Nat.reduceLeDiff,Int.reduceLT,Int.reduceLE,↓u_setN]
 have hti:((((σ.set i (Obj.box [AV.int IntKind.i64 a.org,AV.sl 2 (List.map Seg.c a.path),AV.int IntKind.u32 a.nxt,AV.bool a.hm,AV.int IntKind.u32 a.med,AV.bool a.hp,AV.int IntKind.u32 a.prf,AV.bool a.atm,AV.sl 1 (List.map cU a.cms)])).set j (Obj.box [AV.int IntKind.i64 b.org,AV.sl 2 (List.map Seg.c b.path),AV.int IntKind.u32 b.nxt,AV.bool b.hm,AV.int IntKind.u32 b.med,AV.bool b.hp,AV.int IntKind.u32 b.prf,AV.bool b.atm,AV.sl 1 (List.map cU b.cms)])).set i (Obj.box [AV.int IntKind.i64 p.org,AV.sl 2 (List.map Seg.c p.path),AV.int IntKind.u32 p.nxt,AV.bool p.hm,AV.int IntKind.u32 p.med,AV.bool p.hp,AV.int IntKind.u32 p.prf,AV.bool p.atm,AV.sl 1 (List.map cU p.cms)])).set j (Obj.box [AV.int IntKind.i64 q.org,AV.sl 2 (List.map Seg.c q.path),AV.int IntKind.u32 q.nxt,AV.bool q.hm,AV.int IntKind.u32 q.med,AV.bool q.hp,AV.int IntKind.u32 q.prf,AV.bool q.atm,AV.sl 1 (List.map cU q.cms)])) i=some (Obj.box [AV.int IntKind.i64 p.org,AV.sl 2 (List.map Seg.c p.path),AV.int IntKind.u32 p.nxt,AV.bool p.hm,AV.int IntKind.u32 p.med,AV.bool p.hp,AV.int IntKind.u32 p.prf,AV.bool p.atm,AV.sl 1 (List.map cU p.cms)]):=by rw [Store.set_ne _ _ hj2,Store.set_same]
 have htj:((((σ.set i (Obj.box [AV.int IntKind.i64 a.org,AV.sl 2 (List.map Seg.c a.path),AV.int IntKind.u32 a.nxt,AV.bool a.hm,AV.int IntKind.u32 a.med,AV.bool a.hp,AV.int IntKind.u32 a.prf,AV.bool a.atm,AV.sl 1 (List.map cU a.cms)])).set j (Obj.box [AV.int IntKind.i64 b.org,AV.sl 2 (List.map Seg.c b.path),AV.int IntKind.u32 b.nxt,AV.bool b.hm,AV.int IntKind.u32 b.med,AV.bool b.hp,AV.int IntKind.u32 b.prf,AV.bool b.atm,AV.sl 1 (List.map cU b.cms)])).set i (Obj.box [AV.int IntKind.i64 p.org,AV.sl 2 (List.map Seg.c p.path),AV.int IntKind.u32 p.nxt,AV.bool p.hm,AV.int IntKind.u32 p.med,AV.bool p.hp,AV.int IntKind.u32 p.prf,AV.bool p.atm,AV.sl 1 (List.map cU p.cms)])).set j (Obj.box [AV.int IntKind.i64 q.org,AV.sl 2 (List.map Seg.c q.path),AV.int IntKind.u32 q.nxt,AV.bool q.hm,AV.int IntKind.u32 q.med,AV.bool q.hp,AV.int IntKind.u32 q.prf,AV.bool q.atm,AV.sl 1 (List.map cU q.cms)])) j=some (Obj.box [AV.int IntKind.i64 q.org,AV.sl 2 (List.map Seg.c q.path),AV.int IntKind.u32 q.nxt,AV.bool q.hm,AV.int IntKind.u32 q.med,AV.bool q.hp,AV.int IntKind.u32 q.prf,AV.bool q.atm,AV.sl 1 (List.map cU q.cms)]):=Store.set_same _ _ _
 have hts:Store.sub σ ((((σ.set i (Obj.box [AV.int IntKind.i64 a.org,AV.sl 2 (List.map Seg.c a.path),AV.int IntKind.u32 a.nxt,AV.bool a.hm,AV.int IntKind.u32 a.med,AV.bool a.hp,AV.int IntKind.u32 a.prf,AV.bool a.atm,AV.sl 1 (List.map cU a.cms)])).set j (Obj.box [AV.int IntKind.i64 b.org,AV.sl 2 (List.map Seg.c b.path),AV.int IntKind.u32 b.nxt,AV.bool b.hm,AV.int IntKind.u32 b.med,AV.bool b.hp,AV.int IntKind.u32 b.prf,AV.bool b.atm,AV.sl 1 (List.map cU b.cms)])).set i (Obj.box [AV.int IntKind.i64 p.org,AV.sl 2 (List.map Seg.c p.path),AV.int IntKind.u32 p.nxt,AV.bool p.hm,AV.int IntKind.u32 p.med,AV.bool p.hp,AV.int IntKind.u32 p.prf,AV.bool p.atm,AV.sl 1 (List.map cU p.cms)])).set j (Obj.box [AV.int IntKind.i64 q.org,AV.sl 2 (List.map Seg.c q.path),AV.int IntKind.u32 q.nxt,AV.bool q.hm,AV.int IntKind.u32 q.med,AV.bool q.hp,AV.int IntKind.u32 q.prf,AV.bool q.atm,AV.sl 1 (List.map cU q.cms)])):=z6 (z6 (zk hi hj hj1) hi) hj
 generalize ((((σ.set i (Obj.box [AV.int IntKind.i64 a.org,AV.sl 2 (List.map Seg.c a.path),AV.int IntKind.u32 a.nxt,AV.bool a.hm,AV.int IntKind.u32 a.med,AV.bool a.hp,AV.int IntKind.u32 a.prf,AV.bool a.atm,AV.sl 1 (List.map cU a.cms)])).set j (Obj.box [AV.int IntKind.i64 b.org,AV.sl 2 (List.map Seg.c b.path),AV.int IntKind.u32 b.nxt,AV.bool b.hm,AV.int IntKind.u32 b.med,AV.bool b.hp,AV.int IntKind.u32 b.prf,AV.bool b.atm,AV.sl 1 (List.map cU b.cms)])).set i (Obj.box [AV.int IntKind.i64 p.org,AV.sl 2 (List.map Seg.c p.path),AV.int IntKind.u32 p.nxt,AV.bool p.hm,AV.int IntKind.u32 p.med,AV.bool p.hp,AV.int IntKind.u32 p.prf,AV.bool p.atm,AV.sl 1 (List.map cU p.cms)])).set j (Obj.box [AV.int IntKind.i64 q.org,AV.sl 2 (List.map Seg.c q.path),AV.int IntKind.u32 q.nxt,AV.bool q.hm,AV.int IntKind.u32 q.med,AV.bool q.hp,AV.int IntKind.u32 q.prf,AV.bool q.atm,AV.sl 1 (List.map cU q.cms)]))=t at hti htj hts ⊢
 have nz:∀ {bb:Bool} {E:Env},sideF bb=cmpAs p q → @EndQ ((4,.int .i64 (sideF bb))::E) t ⟨Tst.F75.slots,fun r s=>s=σ∧r = .int .i64 (cmpAs p q)⟩:=fun {bb E} h=>EndQ.to σ _ rfl hts ⟨rfl,by rw [h]⟩
 refine ⟨fun g1=>(v9 _).Q ?_,fun g1=>(c59 _ _ hx.1 hy.1 hx.2.1 hy.2.1).Q ?_⟩
 ·simp only [↓vcPre,↓z0,↓reduceIte,vcPost,vcStd,Nat.reduceEqDiff,reduceCtorEq,Nat.reduceAdd,Nat.reduceLeDiff,Int.reduceLT,Int.reduceLE,↓u_setN]
  exact nz (by simp only [cmpAs,orL,zq,ya,if_neg g1];exact z01 g1)
 ·simp only [hti,htj,↓vcPre,↓z0,↓reduceIte,vcPost,vcStd,Nat.reduceEqDiff,reduceCtorEq,Nat.reduceAdd,Nat.reduceLeDiff,Int.reduceLT,Int.reduceLE,↓u_setN]
  refine ⟨fun g2=>EndQ.to σ _ rfl hts ⟨rfl,by simp only [cmpAs,orL,zq,ya,if_pos g1,if_neg g2]⟩,fun g2=>⟨fun g3=>(v9 _).Q ?_,fun g3 => ?_⟩⟩
  ·simp only [↓vcPre,↓z0,↓reduceIte,vcPost,vcStd,Nat.reduceEqDiff,reduceCtorEq,Nat.reduceAdd,Nat.reduceLeDiff,Int.reduceLT,Int.reduceLE,↓u_setN]
   exact nz (by simp only [cmpAs,orL,zq,ya,if_pos g1,if_pos g2,if_neg g3];exact z01 g3)
  by_cases g4:p.hm=q.hm
  case neg =>
   rw [z6b g4]
   simp only [↓vcPre,↓z0,↓reduceIte,vcPost,vcStd,Nat.reduceEqDiff,reduceCtorEq,Nat.reduceAdd,Nat.reduceLeDiff,Int.reduceLT,Int.reduceLE,↓u_setN]
   refine (v9 _).Q ?_
   simp only [↓vcPre,↓z0,↓reduceIte,vcPost,vcStd,Nat.reduceEqDiff,reduceCtorEq,Nat.reduceAdd,Nat.reduceLeDiff,Int.reduceLT,Int.reduceLE,↓u_setN]
   exact nz (by simp only [cmpAs,orL,zq,ya,if_pos g1,if_pos g2,if_pos g3,if_neg g4];exact z4b g4)
  rw [z6a g4]
  simp only [↓vcPre,↓z0,↓reduceIte,vcPost,vcStd,Nat.reduceEqDiff,reduceCtorEq,Nat.reduceAdd,Nat.reduceLeDiff,Int.reduceLT,Int.reduceLE,↓u_setN]
  refine ⟨fun g5=>(v9 _).Q ?_,fun g5 => ?_⟩
  ·simp only [↓vcPre,↓z0,↓reduceIte,vcPost,vcStd,Nat.reduceEqDiff,reduceCtorEq,Nat.reduceAdd,Nat.reduceLeDiff,Int.reduceLT,Int.reduceLE,↓u_setN]
   exact nz (by simp only [cmpAs,orL,zq,ya,if_pos g1,if_pos g2,if_pos g3,if_pos g4,if_neg g5];exact z01 g5)
  by_cases g6:p.hp=q.hp
  case neg =>
   rw [z6b g6]
   simp only [↓vcPre,↓z0,↓reduceIte,vcPost,vcStd,Nat.reduceEqDiff,reduceCtorEq,Nat.reduceAdd,Nat.reduceLeDiff,Int.reduceLT,Int.reduceLE,↓u_setN]
   refine (v9 _).Q ?_
   simp only [↓vcPre,↓z0,↓reduceIte,vcPost,vcStd,Nat.reduceEqDiff,reduceCtorEq,Nat.reduceAdd,Nat.reduceLeDiff,Int.reduceLT,Int.reduceLE,↓u_setN]
   exact nz (by simp only [cmpAs,orL,zq,ya,if_pos g1,if_pos g2,if_pos g3,if_pos g4,if_pos g5,if_neg g6];exact z4b g6)
  rw [z6a g6]
  simp only [↓vcPre,↓z0,↓reduceIte,vcPost,vcStd,Nat.reduceEqDiff,reduceCtorEq,Nat.reduceAdd,Nat.reduceLeDiff,Int.reduceLT,Int.reduceLE,↓u_setN]
  refine ⟨fun g7=>(v9 _).Q ?_,fun g7 => ?_⟩
  ·simp only [↓vcPre,↓z0,↓reduceIte,vcPost,vcStd,Nat.reduceEqDiff,reduceCtorEq,Nat.reduceAdd,Nat.reduceLeDiff,Int.reduceLT,Int.reduceLE,↓u_setN]
   exact nz (by simp only [cmpAs,orL,zq,ya,if_pos g1,if_pos g2,if_pos g3,if_pos g4,if_pos g5,if_pos g6,if_neg g7];exact z01 g7)
  by_cases g8:p.atm=q.atm
  case neg =>
   rw [z6b g8]
   simp only [↓vcPre,↓z0,↓reduceIte,vcPost,vcStd,Nat.reduceEqDiff,reduceCtorEq,Nat.reduceAdd,Nat.reduceLeDiff,Int.reduceLT,Int.reduceLE,↓u_setN]
   refine (v9 _).Q ?_
   simp only [↓vcPre,↓z0,↓reduceIte,vcPost,vcStd,Nat.reduceEqDiff,reduceCtorEq,Nat.reduceAdd,Nat.reduceLeDiff,Int.reduceLT,Int.reduceLE,↓u_setN]
   exact nz (by simp only [cmpAs,orL,zq,ya,if_pos g1,if_pos g2,if_pos g3,if_pos g4,if_pos g5,if_pos g6,if_pos g7,if_neg g8];exact z4b g8)
  rw [z6a g8]
  simp only [↓vcPre,↓z0,↓reduceIte,vcPost,vcStd,Nat.reduceEqDiff,reduceCtorEq,Nat.reduceAdd,Nat.reduceLeDiff,Int.reduceLT,Int.reduceLE,↓u_setN]
  have hpc:p.cms.length≤1000000:=hx.2.2
  have hqc:q.cms.length≤1000000:=hy.2.2
  have hA:cmpAs p q=cmpG cmpI p.cms q.cms:=by
   simp only [cmpAs,orL,zq,ya,if_pos g1,if_pos g2,if_pos g3,if_pos g4,if_pos g5,if_pos g6,if_pos g7,if_pos g8]
   split
   ·rename_i h;rw [h]
   ·rfl
  refine LoopQ.inv (S:=Nat) (fun k=>[(2,.ptr i 0),(3,.ptr j 0),(6,.int .i64 (k:Int))]) (fun _=>t) (fun k=>k≤p.cms.length∧k≤q.cms.length∧cmpG cmpI (p.cms.drop k) (q.cms.drop k)=cmpAs p q) (fun k=>p.cms.length+1 - k) 0 rfl (Store.sub_refl _) ⟨by omega,by omega,by rw [hA];rfl⟩ ?_
  rintro k ⟨hk,hk2,htk⟩
  simp only [hti,htj,↓vcPre,↓z0,↓reduceIte,vcPost,vcStd,Nat.reduceEqDiff,reduceCtorEq,Nat.reduceAdd,Nat.reduceLeDiff,Int.reduceLT,Int.reduceLE,↓u_setN]
  have ek:IntKind.i64.wrap ((k:Int)+1)=((k+1:Nat):Int):=by rw [za (by unfold I64;omega)];omega
  have endL:¬ ((p.cms.length:Int)=(q.cms.length:Int))→(k=p.cms.length∨k=q.cms.length)→sideF (decide (p.cms.length<q.cms.length))=cmpAs p q:=fun hne hkk=>by
   rw [←htk]
   by_cases e:k=p.cms.length
   ·have h1:p.cms.drop k=[]:=List.drop_eq_nil_of_le (by omega)
    have h2:k<q.cms.length:=by omega
    rw [h1,List.drop_eq_getElem_cons h2,decide_eq_true (by omega)];rfl
   ·have h1:q.cms.drop k=[]:=List.drop_eq_nil_of_le (by omega)
    have h2:k<p.cms.length:=by omega
    rw [h1,List.drop_eq_getElem_cons h2,decide_eq_false (by omega)];rfl
  have cls:∀ {E:Env},(k=p.cms.length∨k=q.cms.length)→(p.cms.length:Int)=(q.cms.length:Int) → @EndQ ((4,.int .i64 0)::E) t ⟨Tst.F75.slots,fun r s=>s=σ∧r = .int .i64 (cmpAs p q)⟩:=fun {E} h1 h2=>EndQ.to σ _ rfl hts ⟨rfl,by
   rw [←htk,List.drop_eq_nil_of_le (by omega),List.drop_eq_nil_of_le (by omega)];rfl⟩
  refine ⟨fun c1=>⟨fun c2 => ?_,fun c2=>⟨fun h=>(v9 _).Q ?_,fun h=>cls (by omega) h⟩⟩,fun c1=>⟨fun h=>(v9 _).Q ?_,fun h=>cls (by omega) h⟩⟩
  ·refine ⟨c1,by simp [cU],?_⟩
   simp only [cU,↓vcPre,↓z0,↓reduceIte,vcPost,vcStd,Nat.reduceEqDiff,reduceCtorEq,Nat.reduceAdd,Nat.reduceLeDiff,Int.reduceLT,Int.reduceLE,↓u_setN]
   have hs1:cmpAs p q=if cmpI p.cms[k] q.cms[k]=0 then cmpG cmpI (p.cms.drop (k+1)) (q.cms.drop (k+1)) else cmpI p.cms[k] q.cms[k]:=by
    rw [←htk,List.drop_eq_getElem_cons c1,List.drop_eq_getElem_cons c2];rfl
   refine ⟨c2,fun g9=>⟨c1,c2,(v9 _).Q ?_⟩,fun g9 => ?_⟩
   ·simp only [↓vcPre,↓z0,↓reduceIte,vcPost,vcStd,Nat.reduceEqDiff,reduceCtorEq,Nat.reduceAdd,Nat.reduceLeDiff,Int.reduceLT,Int.reduceLE,↓u_setN]
    exact nz (by rw [hs1];simp only [zq,if_neg g9];exact z01 g9)
   ·rw [ek]
    refine NextQ.to (k+1) rfl (Store.sub_refl _) (by omega) ⟨by omega,by omega,?_⟩
    rw [hs1,if_pos ((zq _ _).2 g9)]
  ·simp only [↓vcPre,↓z0,↓reduceIte,vcPost,vcStd,Nat.reduceEqDiff,reduceCtorEq,Nat.reduceAdd,Nat.reduceLeDiff,Int.reduceLT,Int.reduceLE,↓u_setN]
   exact nz (endL h (by omega))
  ·simp only [↓vcPre,↓z0,↓reduceIte,vcPost,vcStd,Nat.reduceEqDiff,reduceCtorEq,Nat.reduceAdd,Nat.reduceLeDiff,Int.reduceLT,Int.reduceLE,↓u_setN]
   exact nz (endL h (by omega))
theorem c32 (n:Int):Pur Tryz.prog 32 [.int .u32 n] (.bool (decide (goodN n))):=by
 refine zl Tst.F32 (by simp [Tst.F32,Fn.mkX]) fun σ => ?_
 simp only [Tst.F32,Fn.mkX,Tst.b32]
 have e:shrInt .u32 n 24=n / 16777216:=by
  simp [shrInt,IntKind.bits,z50]
 simp only [e,↓vcPre,↓z0,↓reduceIte,vcPost,vcStd,Nat.reduceEqDiff,reduceCtorEq,Nat.reduceAdd,Nat.reduceLeDiff,Int.reduceLT,Int.reduceLE,↓u_setN]
 (repeat' first
   | (refine ⟨fun _ => ?_,fun _ => ?_⟩)
   | (refine decide_eq_decide.2 ?_;unfold goodN;omega)
   | (symm;rw [decide_eq_false_iff_not];unfold goodN;omega)
   | (symm;rw [decide_eq_true_iff];unfold goodN;omega))
end Go.Am
namespace Go.Am.Tsj
open Go.Proofs Go.Am.B
def t11_39:BC := .seq (z [f 39 8 1,l 40 1 39,u 41 .len 40,c 42 .gtr 41 0] [1,3,42] (.cond (.t 42) (z [k 4 .nils] [1,3,4] (.seq (z [j 5 0] [1,3,4,5] (.block 0 (.loop [1,3,4,5] (.seq (z [m 43 5,f 44 8 1,l 45 1 44,u 46 .len 45,b 47 .lss 43 46] [1,3,4,5,47] (.cond (.t 47) .skip (.exit 0))) (.seq (.block 1 (.ops [m 50 4,f 51 8 1,l 52 1 51,m 53 5,x 54 1 52 53,l 55 1 54,g 56 39 [.t 50,.t 55],m 4 56] [1,3,4,5])) (.ops [m 48 5,c 49 .add 48 1,m 5 49] [1,3,4,5])))))) (.ops [m 57 3,m 58 4,g 59 37 [.t 57,.c (.int .i64 192),.c (.int .i64 8),.t 58],m 3 59] [3]))) .skip)) (z [m 60 3,m 2 60] [2] .ret)
def t11_35:BC := .seq (z [f 35 7 1,l 36 1 35] [1,3,36] (.cond (.t 36) (.ops [m 37 3,g 38 37 [.t 37,.c (.int .i64 64),.c (.int .i64 6),.c .nils],m 3 38] [1,3]) .skip)) t11_39
def t11_28:BC := .seq (z [f 28 5 1,l 29 1 28] [1,3,29] (.cond (.t 29) (.ops [m 30 3,f 31 6 1,l 32 1 31,g 33 39 [.c .nils,.t 32],g 34 37 [.t 30,.c (.int .i64 64),.c (.int .i64 5),.t 33],m 3 34] [1,3]) .skip)) t11_35
def t11_21:BC := .seq (z [f 21 3 1,l 22 1 21] [1,3,22] (.cond (.t 22) (.ops [m 23 3,f 24 4 1,l 25 1 24,g 26 39 [.c .nils,.t 25],g 27 37 [.t 23,.c (.int .i64 128),.c (.int .i64 4),.t 26],m 3 27] [1,3]) .skip)) t11_28
def b11:BC:=z [⟨some 1,none,.alloc (.box),[.t 0]⟩,k 2 .nils] [1] (z [f 6 0 1,l 7 1 6,u 8 (.conv .u8) 7,⟨some 9,none,.alloc (.mksl 1 1),[.t 8]⟩,g 10 37 [.c .nils,.c (.int .i64 64),.c (.int .i64 1),.t 9],m 3 10] [1,3] (z [m 11 3,f 12 1 1,l 13 1 12,g 14 38 [.t 13],g 15 37 [.t 11,.c (.int .i64 64),.c (.int .i64 2),.t 14],m 3 15] [1,3] (z [m 16 3,f 17 2 1,l 18 1 17,g 19 39 [.c .nils,.t 18],g 20 37 [.t 16,.c (.int .i64 64),.c (.int .i64 3),.t 19],m 3 20] [1,3] t11_21)))
def F11:Fn Tryz.prog 11:=Fn.mkX false b11 [.t 2] 61 Tryz.f11 _ Tryz.func11 (by decide) rfl Tryz.ntmps11 (by kernel_rfl) (by kernel_rfl)
end Go.Am.Tsj
namespace Go.Am
open Go.Proofs Go.Sort
theorem z5y {k:IntKind} {a b c d:Int}:alv (.mksl 1 4) [.int k a,.int k b,.int k c,.int k d]=some (.arr 1 [[.int k a],[.int k b],[.int k c],[.int k d]],fun id => .os id 1 0 4):=by rfl
end Go.Am
namespace Go.Am
open Go.Proofs Go.Sort
def encOk (a:At):Prop:=a.path.length≤1000∧(∀ s ∈ a.path,s.ls.length≤1000)∧a.cms.length≤1000
end Go.Am
namespace Go.Am
open Go.Proofs Go.Sort
theorem c16 (n lo hi:Int) (h1:I64 n) (h2:0≤lo) (h3:lo≤hi) (h4:hi<4294967296):Pur Tryz.prog 16 [.int .i64 n,.int .i64 lo,.int .i64 hi] (.int .i64 (lo+(n % (hi - lo+1)))):=by
 refine zl Tst.F16 (by simp [Tst.F16,Fn.mkX]) fun σ => ?_
 simp only [Tst.F16,Fn.mkX,Tst.b16]
 simp only [↓vcPre,↓z0,↓reduceIte,vcPost,vcStd,Nat.reduceEqDiff,reduceCtorEq,Nat.reduceAdd,Nat.reduceLeDiff,Int.reduceLT,Int.reduceLE,↓u_setN]
 have w:∀ {x:Int},-9223372036854775808≤x→x≤9223372036854775807→IntKind.i64.wrap x=x:=fun a b=>za ⟨a,b⟩
 rw [w (x:=hi - lo) (by omega) (by omega),w (x:=hi - lo+1) (by omega) (by omega)]
 have hm:0<hi - lo+1:=by omega
 generalize hd:hi - lo+1=d at *
 have he:n % d=if n.tmod d<0 then n.tmod d+d else n.tmod d:=by
  rw [Int.tmod_eq_emod]
  have:=Int.emod_nonneg n (b:=d) (by omega)
  have:=Int.emod_lt_of_pos n (b:=d) (by omega)
  split <;> split <;> omega
 have b1:=Int.emod_nonneg n (b:=d) (by omega)
 have b2:=Int.emod_lt_of_pos n (b:=d) (by omega)
 refine ⟨by omega,fun hn => ?_,fun hn => ?_⟩
 ·rw [if_pos hn] at he
  rw [w (x:=n.tmod d+hi) (by omega) (by omega),w (x:=n.tmod d+hi - lo) (by omega) (by omega),w (x:=n.tmod d+hi - lo+1) (by omega) (by omega),w (by omega) (by omega)];omega
 ·rw [if_neg hn] at he
  rw [w (by omega) (by omega)];omega
end Go.Am
namespace Go.Am.Tsm
open Go.Proofs Go.Am.B
def t12_60:BC:=z [m 60 3,f 61 1 1,s 1 61 60] [1,2] (.seq (z [f 62 8 1,l 63 1 62,u 64 .len 63,c 65 .gtr 64 5] [1,2,65] (.cond (.t 65) (.ops [f 66 8 1,l 67 1 66,p 68 (.slice 1 false true) [.t 67,.c (.int .i64 5)],f 69 8 1,s 1 69 68] [1,2]) .skip)) (z [⟨some 70,none,.load (.ld 9 true),[.t 1]⟩,g 71 41 [.t 70],s 9 2 71] [2] .ret))
def t12_3:BC:=z [k 3 .nils] [1,2,3] (.seq (z [j 4 0] [1,2,3,4] (.block 0 (.loop [1,2,3,4] (.seq (z [m 18 4,f 19 1 1,l 20 1 19,u 21 .len 20,b 22 .lss 18 21,m 23 22,⟨some 24,some (23,true),.pure (.mov),[.t 4]⟩,⟨some 25,some (23,true),.pure (.bin .lss),[.t 24,.c (.int .i64 4)]⟩,⟨some 26,none,.pick,[.t 23,.t 25,.c (.bool false)]⟩] [1,2,3,4,26] (.cond (.t 26) .skip (.exit 0))) (.seq (.block 1 (z [f 29 1 1,l 30 1 29,m 31 4,x 32 2 30 31,⟨some 33,none,.load (.ld 2 true),[.t 32]⟩,⟨some 5,none,.alloc (.alloc [(.int .i64 0),.nils]),[]⟩,s 2 5 33] [1,2,3,4,5] (.seq (z [f 34 1 5,l 35 1 34,u 36 .len 35,c 37 .gtr 36 5] [1,2,3,4,5,37] (.cond (.t 37) (.ops [f 38 1 5,l 39 1 38,p 40 (.slice 1 false true) [.t 39,.c (.int .i64 5)],f 41 1 5,s 1 41 40] [1,2,3,4,5]) .skip)) (z [f 42 1 5,l 43 1 42,u 44 .len 43,c 45 .gtr 44 0,m 46 45,⟨some 47,some (46,true),.pure (.fld 0),[.t 5]⟩,⟨some 48,some (46,true),.load (.ld 1 false),[.t 47]⟩,⟨some 49,some (46,true),.pure (.bin .eql),[.t 48,.c (.int .i64 1)]⟩,⟨some 50,some (46,true),.pure (.mov),[.t 49]⟩,⟨some 51,some (50,false),.pure (.fld 0),[.t 5]⟩,⟨some 52,some (50,false),.load (.ld 1 false),[.t 51]⟩,⟨some 53,some (50,false),.pure (.bin .eql),[.t 52,.c (.int .i64 2)]⟩,⟨some 54,some (46,true),.pick,[.t 50,.c (.bool true),.t 53]⟩,⟨some 55,none,.pick,[.t 46,.t 54,.c (.bool false)]⟩] [1,2,3,4,5,55] (.cond (.t 55) (.ops [m 56 3,⟨some 57,none,.load (.ld 2 true),[.t 5]⟩,⟨some 58,none,.alloc (.mksl 2 1),[.t 57]⟩,⟨some 59,none,.loud (.app 2 32),[.t 56,.t 58]⟩,m 3 59] [1,2,3,4]) .skip))))) (.ops [m 27 4,c 28 .add 27 1,m 4 28] [1,2,3,4])))))) t12_60)
def b12:BC:=z [⟨some 1,none,.alloc (.box),[.t 0]⟩,⟨some 2,none,.alloc (.alloc [(.int .i64 0),.nils,(.int .u32 0),(.bool false),(.int .u32 0),(.bool false),(.int .u32 0),(.bool false),.nils]),[]⟩] [1,2] (z [f 6 0 1,l 7 1 6,g 8 16 [.t 7,.c (.int .i64 0),.c (.int .i64 2)],f 9 0 1,s 1 9 8] [1,2] (.seq (z [f 10 2 1,l 11 1 10,g 12 32 [.t 11],u 13 .not 12] [1,2,13] (.cond (.t 13) (.ops [f 14 2 1,l 15 1 14,g 16 40 [.t 15],f 17 2 1,s 1 17 16] [1,2]) .skip)) t12_3))
def F12:Fn Tryz.prog 12:=Fn.mkX false b12 [.c 2 9 true] 72 Tryz.f12 _ Tryz.func12 (by decide) rfl Tryz.ntmps12 (by kernel_rfl) (by kernel_rfl)
end Go.Am.Tsm
namespace Go.Am
open Go.Proofs Go.Sort
def nextF (a:Int):Int:=bitInt .or .u32 3221225984 (Int.tmod a 6)
theorem z70 {a:Int} (h:0≤a):nextF a=3221225984+a % 6:=by
 unfold nextF
 rw [Int.tmod_eq_emod_of_nonneg h]
 have:a % 6=0∨a % 6=1∨a % 6=2∨a % 6=3∨a % 6=4∨a % 6=5:=by omega
 rcases this with h | h | h | h | h | h <;> rw [h] <;> decide
theorem c40 (a:Int):Pur Tryz.prog 40 [.int .u32 a] (.int .u32 (nextF a)):=by
 refine zl Tst.F40 (by simp [Tst.F40,Fn.mkX]) fun σ => ?_
 simp only [Tst.F40,Fn.mkX,Tst.b40]
 simp only [↓vcPre,↓z0,↓reduceIte,vcPost,vcStd,Nat.reduceEqDiff,reduceCtorEq,Nat.reduceAdd,Nat.reduceLeDiff,Int.reduceLT,Int.reduceLE,↓u_setN]
 exact ⟨by omega,rfl⟩
def cutS (s:Seg):Seg:={ s with ls:=s.ls.take 5 }
def okS (s:Seg):Bool:=decide (0<s.ls.length∧(s.kind=1∨s.kind=2))
def rightP (l:List Seg):List Seg:=((l.take 4).map cutS).filter okS
def rightK (a:At):At:=canonA { a with org:=a.org % 3,nxt:=if goodN a.nxt then a.nxt else nextF a.nxt,path:=rightP a.path,cms:=a.cms.take 5 }
def boxV (a:At) (v:AV):Obj := .box [.int .i64 a.org,v,.int .u32 a.nxt,.bool a.hm,.int .u32 a.med,.bool a.hp,.int .u32 a.prf,.bool a.atm,.sl 1 (a.cms.map cU)]
theorem z49 (l:List Seg) (h:∀ s ∈ l,s.ok):(rightP l).length≤1000000∧∀ s ∈ rightP l,s.ok:=by
 constructor
 ·have:=List.length_filter_le okS ((l.take 4).map cutS)
  unfold rightP
  simp at this ⊢;omega
 ·intro s hs
  simp only [rightP,List.mem_filter,List.mem_map] at hs
  obtain ⟨⟨t,_,rfl⟩,_⟩:=hs
  simp [Seg.ok,cutS];omega
end Go.Am
namespace Go.Am
theorem z1d {a:At} (h:atRight a):canonA a=a:=by
 obtain ⟨_,_,_,h4,h5,_,h7⟩:=h
 obtain ⟨o,p,n,hm,m,hp',q,t,c⟩:=a
 simp only at h4 h5 h7
 unfold canonA
 simp only [z2h h7,At.mk.injEq,true_and,and_true]
 constructor
 ·cases hm <;> simp_all
 ·cases hp' <;> simp_all
theorem z41 {l:List Int} (h:l.Pairwise (· < ·)):l.mergeSort leI=l:=(qm (List.Perm.refl l) (h.imp fun h=>by omega)).symm
def typesA (inner:Bool) (a:At):List Int:=[1,2,3]++(if a.hm then [4] else [])++(if a.hp && inner then [5] else [])++(if a.atm then [6] else [])++(if a.cms=[] then [] else [8])
theorem z5q (inner:Bool) (a:At):(keepI inner (itsA a)).map It.k=typesA inner a:=by
 unfold keepI itsA typesA
 cases inner <;> cases a.hm <;> cases a.hp <;> cases a.atm <;> by_cases h:a.cms=[] <;> simp [h]
theorem z4h (inner:Bool) (a:At):(typesA inner a).Pairwise (· < ·):=by
 unfold typesA
 cases inner <;> cases a.hm <;> cases a.hp <;> cases a.atm <;> by_cases h:a.cms=[] <;> simp [h]
def outA (inner:Bool) (a:At):At:=if inner then a else { a with hp:=false,prf:=0 }
theorem z46 {a:At} (h:atRight a) (inner:Bool):atRight (outA inner a):=by
 unfold outA
 cases inner
 ·obtain ⟨h1,h2,h3,h4,h5,h6,h7⟩:=h
  exact ⟨h1,h2,h3,h4,fun _=>rfl,h6,h7⟩
 ·exact h
theorem z81 {a:At} (hr:atRight a) (hn:okNums a) (inner:Bool):decA inner (encA a) = .ok (outA inner a,typesA inner a):=by
 obtain ⟨h1,h2⟩:=z8h hr hn
 have h:=qh inner (itsA a) [] zeroAt [] [] h1 h2 (by simp)
 rw [List.append_nil,←z6k,z6i] at h
 rw [z80,h]
 simp only [List.nil_append,z5q,z41 (z4h inner a)]
 obtain ⟨s1,s2⟩:=z77 hr hn
 have e:(keepI inner (itsA a)).foldl (fun a i=>setV i.k i.v a) zeroAt=outA inner a:=by
  unfold outA
  cases inner
  ·exact s2
  ·exact s1
 rw [e,z1d (z46 hr inner)]
theorem uj {a:At} (h:okNums a):okNums (shortA a):=by
 obtain ⟨h1,h2,h3,h4,h5⟩:=h
 refine ⟨h1,h2,h3,fun x hx=>h4 x (List.mem_of_mem_take hx),fun s hs => ?_⟩
 simp only [shortA,List.mem_map] at hs
 obtain ⟨t,ht,rfl⟩:=hs
 exact fun x hx=>h5 t (List.mem_of_mem_take ht) x (List.mem_of_mem_take hx)
theorem qv {a:Int} (h:0≤a):goodN (nextF a)∧0≤nextF a∧nextF a<4294967296:=by
 rw [z70 h]
 have h1:=Int.emod_nonneg a (b:=6) (by omega)
 have h2:=Int.emod_lt_of_pos a (b:=6) (by omega)
 have e:(3221225984+a % 6) / 16777216=192:=by omega
 refine ⟨?_,by omega,by omega⟩
 unfold goodN
 rw [e];omega
theorem z20 {a:At} (h:okNums a):atRight (rightK a):=by
 obtain ⟨h1,_⟩:=h
 refine ⟨?_,⟨fun s hs => ?_,?_⟩,?_,?_,?_,?_,vn _⟩
 ·show 0≤a.org % 3∧a.org % 3≤2
  omega
 ·simp only [rightK,canonA,rightP] at hs
  obtain ⟨h2,h3⟩:=List.mem_filter.mp hs
  simp only [List.mem_map] at h2
  obtain ⟨x,_,rfl⟩:=h2
  unfold okS at h3
  rw [decide_eq_true_eq] at h3
  have:(cutS x).ls.length≤5:=by simp only [cutS,List.length_take];omega
  exact ⟨h3.2,h3.1,by omega⟩
 ·have:=List.length_filter_le okS (((a.path).take 4).map cutS)
  simp only [List.length_map,List.length_take] at this
  show (rightP a.path).length≤16
  unfold rightP
  omega
 ·show goodN (if goodN a.nxt then a.nxt else nextF a.nxt)
  split
  ·assumption
  ·exact (qv h1.1).1
 ·intro hm
  show (if (a.hm:Bool) then a.med else 0)=0
  have:a.hm=false:=hm
  simp [this]
 ·intro hm
  show (if (a.hp:Bool) then a.prf else 0)=0
  have:a.hp=false:=hm
  simp [this]
 ·have:=w7 (a.cms.take 5)
  simp only [List.length_take] at this
  show (canonC (a.cms.take 5)).length≤32
  omega
theorem z2n {a:At} (h:okNums a):okNums (rightK a):=by
 obtain ⟨h1,h2,h3,h4,h5⟩:=h
 refine ⟨?_,?_,?_,fun x hx => ?_,fun s hs => ?_⟩
 ·show 0≤(if goodN a.nxt then a.nxt else nextF a.nxt)∧(if goodN a.nxt then a.nxt else nextF a.nxt)<4294967296
  split
  ·exact h1
  ·exact (qv h1.1).2
 ·show 0≤(if (a.hm:Bool) then a.med else 0)∧(if (a.hm:Bool) then a.med else 0)<4294967296
  split <;> omega
 ·show 0≤(if (a.hp:Bool) then a.prf else 0)∧(if (a.hp:Bool) then a.prf else 0)<4294967296
  split <;> omega
 ·have hx':x ∈ canonC (a.cms.take 5):=hx
  rw [vo] at hx'
  exact h4 x (List.mem_of_mem_take hx')
 ·simp only [rightK,canonA,rightP] at hs
  have h2:=(List.mem_filter.mp hs).1
  simp only [List.mem_map] at h2
  obtain ⟨t,ht,rfl⟩:=h2
  exact fun x hx=>h5 t (List.mem_of_mem_take ht) x (List.mem_of_mem_take hx)
theorem z2o {a:At} (h:okNums a):atRight (rightK (shortA a))∧okNums (rightK (shortA a)) :=
 ⟨z20 (uj h),z2n (uj h)⟩
end Go.Am
