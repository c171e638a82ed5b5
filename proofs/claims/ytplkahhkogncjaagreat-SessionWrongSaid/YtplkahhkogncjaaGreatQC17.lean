/- A part of the proof: a logic for calls over plain values, and the functions that the law reaches, each walked once. -/
import Derived.Test.YtplkahhkogncjaaGreatQC16
set_option linter.unusedVariables false
set_option linter.unusedSimpArgs false
set_option linter.unusedSectionVars false
namespace Go.Am
open Go.Proofs Go.Sort
def pfL (x:Ask):List (Int×Int):=(x.u.n.take 5).map fun q=>prefixF q.1 q.2
def asP (x:Ask) (peer:Int):Int:=IntKind.u32.wrap (peer - IntKind.u32.wrap ((x.n.tmod 4).tdiv 3))
def ubF (x:Ask) (peer:Int):Up:=⟨[],decide (0<(pfL x).length),if 0<(pfL x).length then tameA x.u.a (asP x peer) else zeroAt,pfL x⟩
section
variable {σ T:Store} {p2 p6:Nat} {v:AV} {x:Ask} {B:List Int} {peer:Int} {n rr:Env→Store→Prop} {xx:Nat→Env→Store→Prop}
theorem z2s {u:Up} {cs:List AV} (T6:T p6=some (.box cs)) (hi:ImpL cs u.c) (T2:T p2=some (.box x.c)) (n26:¬ p2=p6) (hs:Store.sub σ T) (h6:σ p6=none) (h2:σ p2=none) (E:List (Nat×AV)) (e:Env) (hE:e=(2,.ptr p2 0)::(6,.ptr p6 0)::E∨∃ z,e=(1,z)::(2,.ptr p2 0)::(6,.ptr p6 0)::E) (hu:u.a.ok) (lw:u.w.length≤100000) (ln:u.n.length≤100000) (he:u.has=true→encOk u.a∧(encA u.a).length≤10000000)
 (hn:∀ w t' X,Store.sub σ t'→t' p2=some (.box x.c)→Own 1 σ ((joinF 2 (encU9 u).1).1.map cB) w t'→n ((2,.ptr p2 0)::(5,w)::X) t') :
 bwp Tryz.prog Ts40.t23_95 e T n rr xx:=by
 simp only [Ts40.t23_95]
 have ul:u.c.length=12:=rfl
 have ut:List.take 12 u.c=u.c:=rfl
 rcases hE with rfl | ⟨z,rfl⟩
 all_goals
  simp only [↓vcPre,↓z8,↓reduceIte,vcPost,vcStd,Nat.reduceEqDiff,reduceCtorEq,Nat.reduceAdd,Nat.reduceLeDiff,Int.reduceLT,Int.reduceLE,↓u_setN]
  refine WkQ.of (WeakE.boxImp p6 T6 hi (WeakE.pure ?_))
  have U6:=Store.set_same T p6 (.box u.c)
  have U2:=(Store.set_ne T (.box u.c) n26).trans T2
  have sU:Store.sub σ (T.set p6 (.box u.c)):=zb hs h6
  show bwp _ _ _ (T.set p6 (.box u.c)) _ _ _
  generalize T.set p6 (.box u.c)=U at U6 U2 sU ⊢
  simp only [U6,ul,ut,↓vcPre,↓z8,↓reduceIte,vcPost,vcStd,Nat.reduceEqDiff,reduceCtorEq,Nat.reduceAdd,Nat.reduceLeDiff,Int.reduceLT,Int.reduceLE,↓u_setN]
  refine (s49 u hu lw ln he U).Q ?_
  rintro r s ⟨hs2,w,rfl,ho⟩
  simp only [↓vcPre,↓z8,↓reduceIte,vcPost,vcStd,Nat.reduceEqDiff,reduceCtorEq,Nat.reduceAdd,Nat.reduceLeDiff,Int.reduceLT,Int.reduceLE,↓u_setN]
  have hl:(encU9 u).1.length≤1000000:=by
   unfold encU9
   split
   ·split
    ·simp
    ·rename_i h;simp [joinU,u16];omega
   ·simp
  refine (s47 (Rd.own ho) hl 2).Q ?_
  rintro r t ⟨hs3,w2,rfl,ho2⟩
  simp only [↓vcPre,↓z8,↓reduceIte,vcPost,vcStd,Nat.reduceEqDiff,reduceCtorEq,Nat.reduceAdd,Nat.reduceLeDiff,Int.reduceLT,Int.reduceLE,↓u_setN]
  have sσ:=Store.sub_trans sU hs2
  exact hn _ _ _ (Store.sub_trans sσ hs3) (hs3 _ _ (hs2 _ _ U2)) (ho2.weak sσ)
theorem z67 {a:At} (h:atRight a):encOk a:=by
 refine ⟨by have:=h.2.1.2;omega,fun s hs => ?_,by have:=h.2.2.2.2.2.1;omega⟩
 have:=h.2.1.1 s hs
 have:=this.2.2
 omega
def z9A:List AV:=[.int .i64 0,.nils,.int .u32 0,.bool false,.int .u32 0,.bool false,.int .u32 0,.bool false,.nils]
theorem zf5 {L:List (Int×Int)}:ImpL (AV.nils :: .bool false::(z9A++[.sl 2 (L.map pxC)])) (⟨[],false,zeroAt,L⟩:Up).c:=by
 have h0:ImpL [AV.sl 2 (L.map pxC)] [AV.sl 2 (L.map pxC)]:=ImpL.one rfl
 exact .cons .nils (.cons (.refl rfl) (.cons (.refl rfl) (.cons .nils (.cons (.refl rfl) (.cons (.refl rfl) (.cons (.refl rfl) (.cons (.refl rfl) (.cons (.refl rfl) (.cons (.refl rfl) (.cons .nils h0))))))))))
theorem zcr {L:List (Int×Int)} {a:At}:ImpL (AV.nils :: .bool true::(a.c++[.sl 2 (L.map pxC)])) (⟨[],true,a,L⟩:Up).c:=by
 have h0:ImpL [AV.sl 2 (L.map pxC)] [AV.sl 2 (L.map pxC)]:=ImpL.one rfl
 have h9:ImpL a.c a.c:=ImpL.refl _ (fun c hc=>by unfold At.c at hc;simp at hc;rcases hc with rfl | rfl | rfl | rfl | rfl | rfl | rfl | rfl | rfl <;> rfl)
 exact .cons .nils (.cons (.refl rfl) (h9.append h0))
set_option maxHeartbeats 1000000 in
theorem z2r {wv:AV} {has:Bool} {a0:At} (ho:Own 2 σ ((pfL x).map pxC) v T) (T6:T p6=some (.box (upC wv has a0 v))) (hwf:wv.flat=true) (T2:T p2=some (.box x.c)) (n26:¬ p2=p6) (hs:Store.sub σ T) (h6:σ p6=none) (h2:σ p2=none) (E:List (Nat×AV)) (hor:I64 x.u.a.org) (hnx:0≤x.u.a.nxt) (hN:I64 x.n)
 (hn:∀ w t' X,Store.sub σ t'→t' p2=some (.box x.c)→Own 1 σ ((joinF 2 (encU9 (ubF x peer)).1).1.map cB) w t'→n ((2,.ptr p2 0)::(5,w)::X) t') :
 bwp Tryz.prog Ts40.t23_72 ((1,.int .u32 peer)::(2,.ptr p2 0)::(6,.ptr p6 0)::E) T n rr xx:=by
 simp only [Ts40.t23_72]
 have n62:¬ p6=p2:=fun e=>n26 e.symm
 have ne2:∀ m,v ≠ .os p2 2 0 m:=fun m e=>by
  rcases ho with ⟨_,rfl⟩ | ⟨g,rfl,_,hg⟩
  ·cases e
  ·cases e;rw [T2] at hg;cases hg
 simp only [↓vcPre,↓z8,↓reduceIte,vcPost,vcStd,Nat.reduceEqDiff,reduceCtorEq,Nat.reduceAdd,Nat.reduceLeDiff,Int.reduceLT,Int.reduceLE,↓u_setN]
 refine WkQ.of (WeakE.ownBox (τ:=σ) p6 11 T6 rfl ho hs h6 fun U q1 q2 q3=>WeakE.pure ?_)
 have U2:=q3 _ _ T2 n26 ne2
 have U6:U p6=some (.box (upC wv has a0 (.sl 2 ((pfL x).map pxC)))):=q2
 have z0:splice 0 [.nils] (upC wv has a0 (.sl 2 ((pfL x).map pxC)))=some (upC .nils has a0 (.sl 2 ((pfL x).map pxC))):=rfl
 have l12:∀ w h a v,(upC w h a v).length=12:=fun _ _ _ _=>rfl
 have f11:∀ w h a v,List.take 1 (List.drop 11 (upC w h a v))=[v]:=fun _ _ _ _=>rfl
 have z1:∀ b,splice 1 [.bool b] (upC .nils has a0 (.sl 2 ((pfL x).map pxC)))=some (upC .nils b a0 (.sl 2 ((pfL x).map pxC))):=fun _=>rfl
 have z2:∀ b,splice 2 [AV.int .i64 0,.nils,.int .u32 0,.bool false,.int .u32 0,.bool false,.int .u32 0,.bool false,.nils] (upC .nils b a0 (.sl 2 ((pfL x).map pxC)))=some (.nils :: .bool b::(z9A++[.sl 2 ((pfL x).map pxC)])):=fun _=>rfl
 have lz:∀ b:Bool,(AV.nils :: .bool b::(z9A++[.sl 2 ((pfL x).map pxC)])).length=12:=fun _=>rfl
 have fz1:∀ b:Bool,List.take 1 (List.drop 1 (AV.nils :: .bool b::(z9A++[.sl 2 ((pfL x).map pxC)])))=[.bool b]:=fun _=>rfl
 have l21:x.c.length=21:=rfl
 have g1:List.take 1 (List.drop 1 x.c)=[.int .i64 x.n]:=rfl
 have g5:List.take 9 (List.drop 5 x.c)=x.u.a.c:=rfl
 have b4':=Int.lt_tmod_of_pos x.n (b:=4) (by omega)
 have b4'':=Int.tmod_lt_of_pos x.n (b:=4) (by omega)
 have w4:IntKind.i64.wrap (x.n.tmod 4)=x.n.tmod 4:=zd (by unfold I64;omega)
 have wq:IntKind.i64.wrap ((x.n.tmod 4).tdiv 3)=(x.n.tmod 4).tdiv 3:=by
  have h:x.n.tmod 4 = -3∨x.n.tmod 4 = -2∨x.n.tmod 4 = -1∨x.n.tmod 4=0∨x.n.tmod 4=1∨x.n.tmod 4=2∨x.n.tmod 4=3:=by omega
  rcases h with h | h | h | h | h | h | h <;> rw [h] <;> decide
 have ht9:(tameA x.u.a (asP x peer)).c.length=9:=rfl
 have zt:splice 2 (tameA x.u.a (asP x peer)).c (.nils :: .bool true::(z9A++[.sl 2 ((pfL x).map pxC)]))=some (.nils :: .bool true::((tameA x.u.a (asP x peer)).c++[.sl 2 ((pfL x).map pxC)])):=rfl
 simp only [U6,l12,z0,f11,z1,z2,lz,fz1,↓vcPre,↓z8,↓reduceIte,vcPost,vcStd,Nat.reduceEqDiff,reduceCtorEq,Nat.reduceAdd,Nat.reduceLeDiff,Int.reduceLT,Int.reduceLE,↓u_setN]
 have hpl:(pfL x).length≤100000:=by unfold pfL;simp;omega
 refine ⟨fun c => ?_,fun c => ?_⟩
 ·have hd:decide (0<((pfL x).length:Int))=true:=by simpa using c
  have hub:ubF x peer=⟨[],true,tameA x.u.a (asP x peer),pfL x⟩:=by unfold ubF;rw [if_pos (by omega),decide_eq_true (by omega)]
  rw [hub] at hn
  have hea:=z86 x.u.a (asP x peer) hnx
  have n26':=n26
  rw [hd]
  simp only [Store.set_set]
  have V2:=(Store.set_ne U (.box (AV.nils :: .bool true::(z9A++[.sl 2 ((pfL x).map pxC)]))) n26).trans U2
  have V6:=Store.set_same U p6 (.box (AV.nils :: .bool true::(z9A++[.sl 2 ((pfL x).map pxC)])))
  have sV:Store.sub σ (U.set p6 (.box (AV.nils :: .bool true::(z9A++[.sl 2 ((pfL x).map pxC)])))):=zb q1 h6
  generalize U.set p6 (.box (AV.nils :: .bool true::(z9A++[.sl 2 ((pfL x).map pxC)])))=V at V2 V6 sV ⊢
  simp only [V2,l21,g1,g5,w4,wq,↓vcPre,↓z8,↓reduceIte,vcPost,vcStd,Nat.reduceEqDiff,reduceCtorEq,Nat.reduceAdd,Nat.reduceLeDiff,Int.reduceLT,Int.reduceLE,↓u_setN]
  refine ⟨by decide,by decide,?_⟩
  refine (c14 x.u.a hor (asP x peer)).Q ?_
  simp only [V6,ht9,zt,↓vcPre,↓z8,↓reduceIte,vcPost,vcStd,Nat.reduceEqDiff,reduceCtorEq,Nat.reduceAdd,Nat.reduceLeDiff,Int.reduceLT,Int.reduceLE,↓u_setN]
  exact z2s (Store.set_same _ _ _) zcr ((Store.set_ne _ _ n26).trans V2) n26 (zb sV h6) h6 h2 _ _ (.inl rfl) hea.aok (by simp) hpl (fun _=>⟨z67 hea.right,Nat.le_trans hea.enc (by decide)⟩) hn
 ·have hd:decide (0<((pfL x).length:Int))=false:=by simpa using c
  have hub:ubF x peer=⟨[],false,zeroAt,pfL x⟩:=by unfold ubF;rw [if_neg (by omega),decide_eq_false (by omega)]
  rw [hub] at hn
  rw [hd]
  simp only [Store.set_set]
  exact z2s (Store.set_same _ _ _) zf5 ((Store.set_ne _ _ n26).trans U2) n26 (zb q1 h6) h6 h2 _ _ (.inr ⟨_,rfl⟩) ⟨Nat.zero_le _,(fun s hs=>by cases hs),Nat.zero_le _⟩ (by simp) hpl (fun h=>by cases h) hn
set_option maxHeartbeats 1000000 in
theorem z7t (T2:T p2=some (.box x.c)) (hs:Store.sub σ T) (h2:σ p2=none) (E:List (Nat×AV)) (hor:I64 x.u.a.org) (hnx:0≤x.u.a.nxt) (hN:I64 x.n) (hpf:∀ q ∈ x.u.n,I64 q.2)
 (hn:∀ w t' X,Store.sub σ t'→t' p2=some (.box x.c)→Own 1 σ ((joinF 2 (encU9 (ubF x peer)).1).1.map cB) w t'→n ((2,.ptr p2 0)::(5,w)::X) t') :
 bwp Tryz.prog Ts40.t23_37 ((1,.int .u32 peer)::(2,.ptr p2 0)::E) T n rr xx:=by
 simp only [Ts40.t23_37]
 have l21:x.c.length=21:=rfl
 have g3:List.take 12 (List.drop 3 x.c)=x.u.c:=rfl
 have g14:List.take 1 (List.drop 14 x.c)=[.sl 2 (x.u.n.map pxC)]:=rfl
 have zu:splice 0 x.u.c [AV.nils,.bool false,.int .i64 0,.nils,.int .u32 0,.bool false,.int .u32 0,.bool false,.int .u32 0,.bool false,.nils,.nils]=some x.u.c:=rfl
 have ul:x.u.c.length=12:=rfl
 have zn:splice 11 [.nils] x.u.c=some (upC (.sl 2 (x.u.w.map pxC)) x.u.has x.u.a .nils):=rfl
 have l12:∀ w h a v,(upC w h a v).length=12:=fun _ _ _ _=>rfl
 have f11:∀ w h a v,List.take 1 (List.drop 11 (upC w h a v))=[v]:=fun _ _ _ _=>rfl
 have s11:∀ w h a v v',splice 11 [v'] (upC w h a v)=some (upC w h a v'):=fun _ _ _ _ _=>rfl
 simp only [T2,l21,g3,↓vcPre,↓z8,↓reduceIte,vcPost,vcStd,Nat.reduceEqDiff,reduceCtorEq,Nat.reduceAdd,Nat.reduceLeDiff,Int.reduceLT,Int.reduceLE,↓u_setN]
 refine AllocQ.i0 fun p6 h6 => ?_
 have n26:¬ p2=p6:=fun e=>by subst e;rw [T2] at h6;cases h6
 simp only [zu,ul,zn,↓vcPre,↓z8,↓reduceIte,vcPost,vcStd,Nat.reduceEqDiff,reduceCtorEq,Nat.reduceAdd,Nat.reduceLeDiff,Int.reduceLT,Int.reduceLE,↓u_setN]
 simp only [Store.set_set]
 have h6σ:=zo hs h6
 have sU:Store.sub σ (T.set p6 (.box (upC (.sl 2 (x.u.w.map pxC)) x.u.has x.u.a .nils))):=zb hs h6σ
 have U6:=Store.set_same T p6 (.box (upC (.sl 2 (x.u.w.map pxC)) x.u.has x.u.a .nils))
 have U2:=(Store.set_ne T (.box (upC (.sl 2 (x.u.w.map pxC)) x.u.has x.u.a .nils)) n26).trans T2
 generalize T.set p6 (.box (upC (.sl 2 (x.u.w.map pxC)) x.u.has x.u.a .nils))=U at sU U6 U2 ⊢
 refine LoopQ.inv (S:=Nat×AV×Store) (fun q=>[(1,.int .u32 peer),(2,.ptr p2 0),(6,.ptr p6 0),(7,.int .i64 (q.1:Int))]) (fun q=>q.2.2)
  (fun q=>q.1≤5∧q.1≤x.u.n.length∧Store.sub σ q.2.2∧q.2.2 p2=some (.box x.c)∧q.2.2 p6=some (.box (upC (.sl 2 (x.u.w.map pxC)) x.u.has x.u.a q.2.1))∧Own 2 σ (((x.u.n.take q.1).map fun q=>prefixF q.1 q.2).map pxC) q.2.1 q.2.2) (fun q=>6 - q.1) (0,.nils,U) rfl (Store.sub_refl _) ⟨by simp,by simp,sU,U2,U6,.inl ⟨by simp,rfl⟩⟩ ?_
 rintro ⟨i,u,t⟩ ⟨hi,hi2,ht,t2,t6,hu⟩
 simp only at hi hi2 ht t2 t6 hu
 simp only [t2,l21,g14,↓vcPre,↓z8,↓reduceIte,vcPost,vcStd,Nat.reduceEqDiff,reduceCtorEq,Nat.reduceAdd,Nat.reduceLeDiff,Int.reduceLT,Int.reduceLE,↓u_setN]
 have done:(i=5∨i=x.u.n.length)→(x.u.n.take i).map (fun q=>prefixF q.1 q.2)=pfL x:=fun h=>by
  unfold pfL
  rcases h with rfl | rfl
  ·rfl
  ·rw [List.take_of_length_le (Nat.le_refl _),List.take_of_length_le hi]
 refine ⟨fun c1=>⟨fun c2 => ?_,fun c2 => ?_⟩,fun c1 => ?_⟩
 ·have c1':i<x.u.n.length:=by omega
  have ei:IntKind.i64.wrap ((i:Int)+1)=((i+1:Nat):Int):=by rw [zd (by unfold I64;omega)];omega
  have htk:(x.u.n.take (i+1)).map (fun q=>prefixF q.1 q.2)=(x.u.n.take i).map (fun q=>prefixF q.1 q.2)++[prefixF x.u.n[i].1 x.u.n[i].2]:=by
   rw [List.take_add_one,List.getElem?_eq_getElem c1',List.map_append];rfl
  have hq:=hpf _ (List.getElem_mem c1')
  simp only [t6,l12,f11,↓vcPre,↓z8,↓reduceIte,vcPost,vcStd,Nat.reduceEqDiff,reduceCtorEq,Nat.reduceAdd,Nat.reduceLeDiff,Int.reduceLT,Int.reduceLE,↓u_setN]
  have o1:∀ y:Int×Int,oneV (List.take 1 (pxC y))=some (.int .u32 y.1):=fun _=>rfl
  have o2:∀ y:Int×Int,oneV (List.take 1 (List.drop 1 (pxC y)))=some (.int .i64 y.2):=fun _=>rfl
  refine ⟨by simpa using c1',Nat.le_add_left 1 1,?_⟩
  rw [o1,y7]
  refine ⟨by simpa using c1',Nat.le_refl 1,?_⟩
  rw [o2,y7]
  generalize x.u.n[i]=q at htk hq ⊢
  refine (c19 q.1 q.2 hq).Q ?_
  refine ⟨Store.sub_refl _,?_⟩
  have a1:alv (.mksl 2 1) [AV.agg [.int .u32 (prefixF q.1 q.2).1,.int .i64 (prefixF q.1 q.2).2]]=some (.arr 2 [pxC (prefixF q.1 q.2)],fun id => .os id 2 0 1):=rfl
  simp only [a1,↓vcPre,↓z8,↓reduceIte,vcPost,vcStd,Nat.reduceEqDiff,reduceCtorEq,Nat.reduceAdd,Nat.reduceLeDiff,Int.reduceLT,Int.reduceLE,↓u_setN]
  refine AllocQ.i0 fun g hg => ?_
  simp only [↓vcPre,↓z8,↓reduceIte,vcPost,vcStd,Nat.reduceEqDiff,reduceCtorEq,Nat.reduceAdd,Nat.reduceLeDiff,Int.reduceLT,Int.reduceLE,↓u_setN]
  have sA:=Store.sub_set t g (.arr 2 [pxC (prefixF q.1 q.2)]) hg
  refine Own.appP (τ:=σ) (Store.sub_trans ht sA) (hu.mono sA) (zq (Store.set_same _ _ _) rfl) (by simp;omega) fun v1 s1 q1 q2 q3 => ?_
  have m6:=q3 _ _ (sA _ _ t6) (fun M e=>by cases e)
  have m2:=q3 _ _ (sA _ _ t2) (fun M e=>by cases e)
  obtain ⟨hw1,hw2⟩:=q2.cell
  simp only [m6,hw1,hw2,l12,s11,ei,↓vcPre,↓z8,↓reduceIte,vcPost,vcStd,Nat.reduceEqDiff,reduceCtorEq,Nat.reduceAdd,Nat.reduceLeDiff,Int.reduceLT,Int.reduceLE,↓u_setN]
  refine NextQ.to (i+1,v1,s1.set p6 (.box (upC (.sl 2 (x.u.w.map pxC)) x.u.has x.u.a v1))) rfl (Store.sub_refl _) (by simp only;omega) ⟨by simp only;omega,by simp only;omega,zb q1 h6σ,(Store.set_ne _ _ n26).trans m2,Store.set_same _ _ _,?_⟩
  simp only
  rw [htk,List.map_append]
  exact q2.setId m6 (fun M e=>by cases e)
 ·rw [done (.inl (by omega))] at hu
  exact z2r hu t6 rfl t2 n26 ht h6σ h2 _ hor hnx hN hn
 ·rw [done (.inr (by omega))] at hu
  exact z2r hu t6 rfl t2 n26 ht h6σ h2 _ hor hnx hN hn
end
end Go.Am
namespace Go.Am
open Go.Proofs Go.Sort
def baseF (x:Ask) (peer:Int):List Int :=
 if x.kind=4 then (joinF 1 (encH ⟨peer,x.hold,7⟩)).1 else if x.kind=5 then (joinF 4 []).1
 else if x.kind=6 then (joinF 2 (encU9 (ubF x peer)).1).1 else if x.kind=7 then (joinF 3 [6,0]).1 else x.b.take 60
def bytesF (x:Ask) (peer:Int):List Int:=turnF x (baseF x peer)
theorem qo (x:Ask) (peer:Int):(baseF x peer).length≤4096:=by
 unfold baseF
 repeat' split
 all_goals first | exact ue _ _ | (simp;omega)
structure Ask.Ok (x:Ask):Prop where
 n:I64 x.n
 at_:I64 x.at_
 org:I64 x.u.a.org
 nxt:0≤x.u.a.nxt
 pf:∀ q ∈ x.u.n,I64 q.2
set_option maxHeartbeats 1000000 in
set_option maxRecDepth 20000 in
theorem s23 {σ:Store} (x:Ask) (hx:x.Ok) (peer:Int) (hp:0≤peer∧peer≤65535):ACalls Tryz.prog 23 [.agg x.c,.int .u32 peer] σ (fun r s=>Store.sub σ s∧Own 1 σ ((bytesF x peer).map cB) r s):=by
 refine ze Ts40.F23 (by simp [Ts40.F23,Fn.mkW]) ?_
 simp only [Ts40.F23,Fn.mkW,Ts40.b23]
 have l21:x.c.length=21:=rfl
 have f0:List.take 1 x.c=[.int .i64 x.kind]:=rfl
 have f2:List.take 1 (List.drop 2 x.c)=[.int .i64 x.hold]:=rfl
 have f18:List.take 1 (List.drop 18 x.c)=[.sl 1 (x.b.map cB)]:=rfl
 have wp:IntKind.i64.wrap peer=peer:=zd (by unfold I64;omega)
 have hl:=qo x peer
 simp only [↓vcPre,↓z8,↓reduceIte,vcPost,vcStd,Nat.reduceEqDiff,reduceCtorEq,Nat.reduceAdd,Nat.reduceLeDiff,Int.reduceLT,Int.reduceLE,↓u_setN]
 refine AllocQ.i0 fun p2 h2 => ?_
 have sT:=Store.sub_set σ p2 (.box x.c) h2
 have T2:=Store.set_same σ p2 (.box x.c)
 generalize σ.set p2 (.box x.c)=T at sT T2 ⊢
 have fin:∀ w t E,t p2=some (.box x.c)→Store.sub σ t→Own 1 σ ((baseF x peer).map cB) w t→bwp Tryz.prog Ts40.t23_111 ((2,.ptr p2 0)::(5,w)::E) t (fun e τ' => @EndQ e τ' ⟨Ts40.F23.slots,fun r s=>Store.sub σ s∧Own 1 σ ((bytesF x peer).map cB) r s⟩) (fun e τ' => @EndQ e τ' ⟨Ts40.F23.slots,fun r s=>Store.sub σ s∧Own 1 σ ((bytesF x peer).map cB) r s⟩) (fun _ _ _=>False):=fun w t E t2 ht ho =>
  z6f t2 ht h2 ho (by omega) hx.n hx.at_ E fun w' t' q1 q2=>EndQ.to _ _ rfl (Store.sub_refl _) ⟨q1,q2⟩
 simp only [T2,l21,f0,↓vcPre,↓z8,↓reduceIte,vcPost,vcStd,Nat.reduceEqDiff,reduceCtorEq,Nat.reduceAdd,Nat.reduceLeDiff,Int.reduceLT,Int.reduceLE,↓u_setN]
 refine ⟨fun c4 => ?_,fun c4=>⟨fun c5 => ?_,fun c5=>⟨fun c6 => ?_,fun c6=>⟨fun c7 => ?_,fun c7 => ?_⟩⟩⟩⟩
 ·have hb:baseF x peer=(joinF 1 (encH ⟨peer,x.hold,7⟩)).1:=by unfold baseF;rw [if_pos c4]
  have hc:[AV.int .i64 peer,.int .i64 x.hold,.int .u32 7]=(⟨peer,x.hold,7⟩:Hel).c:=rfl
  simp only [T2,l21,f2,wp,hc,↓vcPre,↓z8,↓reduceIte,vcPost,vcStd,Nat.reduceEqDiff,reduceCtorEq,Nat.reduceAdd,Nat.reduceLeDiff,Int.reduceLT,Int.reduceLE,↓u_setN]
  refine (s48 ⟨peer,x.hold,7⟩).Q ?_
  rintro r s1 ⟨q1,q2⟩
  simp only [↓vcPre,↓z8,↓reduceIte,vcPost,vcStd,Nat.reduceEqDiff,reduceCtorEq,Nat.reduceAdd,Nat.reduceLeDiff,Int.reduceLT,Int.reduceLE,↓u_setN]
  refine (s47 (Rd.own q2) (by simp [encH,b4]) 1).Q ?_
  rintro r s2 ⟨q3,w,rfl,q4⟩
  simp only [↓vcPre,↓z8,↓reduceIte,vcPost,vcStd,Nat.reduceEqDiff,reduceCtorEq,Nat.reduceAdd,Nat.reduceLeDiff,Int.reduceLT,Int.reduceLE,↓u_setN]
  exact fin _ _ _ (q3 _ _ (q1 _ _ T2)) (Store.sub_trans sT (Store.sub_trans q1 q3)) (by rw [hb];exact q4.weak (Store.sub_trans sT q1))
 ·have hb:baseF x peer=(joinF 4 []).1:=by unfold baseF;rw [if_neg c4,if_pos c5]
  refine (s47 (B:=[]) Rd.nils (by simp) 4).Q ?_
  rintro r s2 ⟨q3,w,rfl,q4⟩
  simp only [↓vcPre,↓z8,↓reduceIte,vcPost,vcStd,Nat.reduceEqDiff,reduceCtorEq,Nat.reduceAdd,Nat.reduceLeDiff,Int.reduceLT,Int.reduceLE,↓u_setN]
  exact fin _ _ _ (q3 _ _ T2) (Store.sub_trans sT q3) (by rw [hb];exact q4.weak sT)
 ·have hb:baseF x peer=(joinF 2 (encU9 (ubF x peer)).1).1:=by unfold baseF;rw [if_neg c4,if_neg c5,if_pos c6]
  refine z7t T2 sT h2 _ hx.org hx.nxt hx.n hx.pf fun w t' X q1 q2 q3 => ?_
  exact fin _ _ _ q2 q1 (by rw [hb];exact q3)
 ·have hb:baseF x peer=(joinF 3 [6,0]).1:=by unfold baseF;rw [if_neg c4,if_neg c5,if_neg c6,if_pos c7]
  have a2:alv (.mksl 1 2) [AV.int .u8 6,.int .u8 0]=some (.arr 1 (([6,0]:List Int).map cB),fun id => .os id 1 0 2):=rfl
  refine AllocQ.i0 fun q hq => ?_
  simp only [↓vcPre,↓z8,↓reduceIte,vcPost,vcStd,Nat.reduceEqDiff,reduceCtorEq,Nat.reduceAdd,Nat.reduceLeDiff,Int.reduceLT,Int.reduceLE,↓u_setN]
  have sA:=Store.sub_set T q (.arr 1 (([6,0]:List Int).map cB)) hq
  refine (s47 (B:=[6,0]) (Rd.os (Store.set_same _ _ _)) (by simp) 3).Q ?_
  rintro r s2 ⟨q3,w,rfl,q4⟩
  simp only [↓vcPre,↓z8,↓reduceIte,vcPost,vcStd,Nat.reduceEqDiff,reduceCtorEq,Nat.reduceAdd,Nat.reduceLeDiff,Int.reduceLT,Int.reduceLE,↓u_setN]
  exact fin _ _ _ (q3 _ _ (sA _ _ T2)) (Store.sub_trans sT (Store.sub_trans sA q3)) (by rw [hb];exact q4.weak (Store.sub_trans sT sA))
 ·have hb:baseF x peer=x.b.take 60:=by unfold baseF;rw [if_neg c4,if_neg c5,if_neg c6,if_neg c7]
  refine AllocQ.i0 fun q hq => ?_
  have sA:=Store.sub_set T q (.arr 1 []) hq
  have A2:=sA _ _ T2
  have Aq:=Store.set_same T q (.arr 1 [])
  simp only [↓vcPre,↓z8,↓reduceIte,vcPost,vcStd,Nat.reduceEqDiff,reduceCtorEq,Nat.reduceAdd,Nat.reduceLeDiff,Int.reduceLT,Int.reduceLE,↓u_setN]
  generalize T.set q (.arr 1 [])=U at sA A2 Aq ⊢
  simp only [A2,l21,f18,↓vcPre,↓z8,↓reduceIte,vcPost,vcStd,Nat.reduceEqDiff,reduceCtorEq,Nat.reduceAdd,Nat.reduceLeDiff,Int.reduceLT,Int.reduceLE,↓u_setN]
  have hcut:=s30 (σ:=U) (B:=x.b) (v := .sl 1 (x.b.map cB)) Rd.sl 60
  refine hcut.Q ?_
  rintro r U ⟨rfl,hr⟩
  simp only [↓vcPre,↓z8,↓reduceIte,vcPost,vcStd,Nat.reduceEqDiff,reduceCtorEq,Nat.reduceAdd,Nat.reduceLeDiff,Int.reduceLT,Int.reduceLE,↓u_setN]
  refine xd (zq Aq rfl) (hr.1 _ (Store.sub_refl _)) (by simp;omega) fun j hj => ?_
  have hσq:σ q=none:=zo sT hq
  have hσU:=Store.sub_trans sT sA
  have hσj:σ j=none:=zo hσU hj
  have nq:¬ p2=q:=fun e=>by subst e;rw [T2] at hq;cases hq
  have nj:¬ p2=j:=fun e=>by subst e;rw [A2] at hj;cases hj
  refine fin _ _ _ (by rw [Store.set_ne _ _ nj,Store.del_ne _ nq];exact A2) (zb (sub_del hσU hσq) hσj) (.inr ⟨j,by rw [hb];simp,hσj,by rw [hb];simp⟩)
theorem uw {k:Int} {b:List Int} (h:U8s b):U8s (joinF k b).1:=by
 unfold joinF
 split
 ·exact fun y hy=>by cases hy
 ·split
  ·exact fun y hy=>by cases hy
  ·intro y hy
   rcases List.mem_append.1 hy with hy | hy
   ·rcases List.mem_append.1 hy with hy | hy
    ·exact z2m y hy
    ·simp at hy;omega
   ·exact h y hy
theorem zas (h:Hel):U8s (encH h):=by
 intro y hy
 simp [encH,b4] at hy
 omega
theorem z8z (u:Up):U8s (encU9 u).1:=by
 unfold encU9
 split
 ·rename_i hr
  obtain ⟨h1,h2⟩:=ql hr
  split
  ·exact fun y hy=>by cases hy
  ·intro y hy
   have ha:U8s (aOf u):=by
    unfold aOf
    split
    ·exact zar _
    ·exact fun y hy=>by cases hy
   simp only [joinU,List.mem_append,or_assoc] at hy
   rcases hy with hy | hy | hy | hy | hy
   all_goals first | exact zdy _ y hy | exact z4v h1 y hy | exact z4v h2 y hy | exact ha y hy
 ·exact fun y hy=>by cases hy
theorem z37 (x:Ask) (peer:Int) (hb:U8s x.b):U8s (baseF x peer):=by
 unfold baseF
 repeat' split
 ·exact uw (zas _)
 ·exact uw (fun y hy=>by cases hy)
 ·exact uw (z8z _)
 ·exact uw (fun y hy=>by simp at hy;omega)
 ·exact hb.take _
theorem z6v (x:Ask) (peer:Int) (hb:U8s x.b):U8s (bytesF x peer):=by
 unfold bytesF turnF
 split
 ·intro y hy
  rcases List.mem_or_eq_of_mem_set hy with h | h
  ·exact z37 x peer hb y h
  ·rw [h];exact zcy _ _
 ·exact z37 x peer hb
theorem yo (x:Ask) (peer:Int):(bytesF x peer).length≤4096:=by
 unfold bytesF turnF
 split
 ·rw [List.length_set];exact qo _ _
 ·exact qo _ _
end Go.Am
namespace Go.Am
open Go.Proofs Go.Sort
section
variable {σ τ1 τ2 s s':Store} {p:Nat} {S:Ses} {O:List Int} {E:List Ev} {ov hv:AV}
theorem Own.at_ne {e1:Nat} {L:List (List AV)} {v:AV} (h:Own e1 σ L v s) (hs:Store.sub s s') {τ:Store} (hσ:Store.sub σ τ) (hk:∀ g,v = .os g e1 0 L.length→s g=some (.arr e1 L)→τ g=some (.arr e1 L)):Own e1 σ L v τ:=by
 rcases h with h | ⟨g,rfl,h2,h3⟩
 ·exact .inl h
 ·exact .inr ⟨g,rfl,h2,hk g rfl h3⟩
theorem ST.cut (h:ST σ p S O E ov hv τ1) (hs:Store.sub τ1 s):∃ τ2,Store.sub σ τ2∧Store.sub τ2 s∧SQ τ2 p S s∧(∀ j o,s j=some o→τ1 j=none→τ2 j=some o)∧Own 1 σ (O.map cB) ov τ2∧Own 13 σ (E.map Ev.c) hv τ2:=by
 obtain ⟨bv,hp,h1,h2,h3,h4,h5,h6⟩:=h
 have sp:=hs _ _ hp
 rcases h3 with ⟨hb,rfl⟩ | ⟨g,f,es,rfl,hg,hgs,hgl⟩
 ·refine ⟨s.del p,sub_del (Store.sub_trans h2 hs) h1,zz _ _,⟨.nils,sp,by simp,zz _ _,.inl ⟨hb,rfl⟩,.inl ⟨rfl,rfl⟩,.inl ⟨rfl,rfl⟩,fun _ _ _ h=>by cases h⟩,fun j o hj ht => ?_,?_,?_⟩
  ·rw [Store.del_ne _ (fun e=>by subst e;rw [hp] at ht;cases ht)];exact hj
  ·exact Own.at_ne h4 hs (sub_del (Store.sub_trans h2 hs) h1) fun g hv hg=>by rw [Store.del_ne _ (fun e=>by subst e;rw [hp] at hg;cases hg)];exact hs _ _ hg
  ·exact Own.at_ne h5 hs (sub_del (Store.sub_trans h2 hs) h1) fun g hv hg=>by rw [Store.del_ne _ (fun e=>by subst e;rw [hp] at hg;cases hg)];exact hs _ _ hg
 ·have sg:=hs _ _ hgs
  have npg:¬ p=g:=fun e=>by subst e;rw [hp] at hgs;cases hgs
  have hsub:Store.sub σ ((s.del p).del g):=sub_del (sub_del (Store.sub_trans h2 hs) h1) hg
  have dp:((s.del p).del g) p=none:=by rw [Store.del_ne _ npg];simp
  have hsl:slc s 1 (.os g 1 f (S.b.map cB).length)=some (S.b.map cB):=z0g hgl hs
  refine ⟨(s.del p).del g,hsub,fun j o hj => ?_,⟨.os g 1 f (S.b.map cB).length,sp,dp,fun j o hj => ?_,.inr ⟨g,f,es,rfl,by simp,sg,hsl⟩,.inl ⟨rfl,rfl⟩,.inl ⟨rfl,rfl⟩,fun _ _ _ _ _ _ _ h=>by cases h⟩,fun j o hj ht => ?_,?_,?_⟩
  ·exact zz _ _ _ _ (zz _ _ _ _ hj)
  ·exact zz _ _ _ _ (zz _ _ _ _ hj)
  ·rw [Store.del_ne _ (fun e=>by subst e;rw [hgs] at ht;cases ht),Store.del_ne _ (fun e=>by subst e;rw [hp] at ht;cases ht)];exact hj
  ·exact Own.at_ne h4 hs hsub fun g' hv hg'=>by
    rw [Store.del_ne _ (fun e=>by subst e;exact h6 _ _ _ rfl _ _ _ hv),Store.del_ne _ (fun e=>by subst e;rw [hp] at hg';cases hg')];exact hs _ _ hg'
  ·exact Own.at_ne h5 hs hsub fun g' hv hg'=>by
    rw [Store.del_ne _ (fun e=>by subst e;rw [hgs] at hg';cases hg'),Store.del_ne _ (fun e=>by subst e;rw [hp] at hg';cases hg')];exact hs _ _ hg'
theorem ST.into (h:ST τ1 p S O E ov hv s) (hσ1:Store.sub σ τ1) (hσ2:Store.sub σ τ2) (hk:∀ j o,s j=some o→τ1 j=none→τ2 j=some o):ST σ p S O E ov hv τ2:=by
 obtain ⟨bv,hp,h1,h2,h3,h4,h5,h6⟩:=h
 refine ⟨bv,hk _ _ hp h1,zo hσ1 h1,hσ2,?_,?_,?_,h6⟩
 ·rcases h3 with h | ⟨g,f,es,rfl,hg,hgs,hgl⟩
  ·exact .inl h
  ·have q:=hk _ _ hgs hg
   refine .inr ⟨g,f,es,rfl,zo hσ1 hg,q,?_⟩
   simp only [slc,hgs,q] at hgl ⊢
   exact hgl
 ·rcases h4 with h | ⟨g,rfl,hg,hgs⟩
  ·exact .inl h
  ·exact .inr ⟨g,rfl,zo hσ1 hg,hk _ _ hgs hg⟩
 ·rcases h5 with h | ⟨g,rfl,hg,hgs⟩
  ·exact .inl h
  ·exact .inr ⟨g,rfl,zo hσ1 hg,hk _ _ hgs hg⟩
theorem ST.frz (h:ST σ p S O E ov hv s) (hs':Store.sub σ s') (hk:∀ i o,s i=some o→(∀ n,ov ≠ .os i 1 0 n)→s' i=some o):SQ σ p S s':=by
 obtain ⟨bv,hp,h1,h2,h3,h4,h5,h6⟩:=h
 refine ⟨bv,hk _ _ hp (fun n=>h4.ne_box hp _ _ _),h1,hs',?_,.inl ⟨rfl,rfl⟩,.inl ⟨rfl,rfl⟩,fun _ _ _ _ _ _ _ h=>by cases h⟩
 rcases h3 with h | ⟨g,f,es,rfl,hg,hgs,hgl⟩
 ·exact .inl h
 ·have q:=hk _ _ hgs (fun n=>h6 _ _ _ rfl _ _ _)
  refine .inr ⟨g,f,es,rfl,hg,q,?_⟩
  simp only [slc,hgs,q] at hgl ⊢
  exact hgl
end
section
variable {σ τ s:Store} {pa pb:Nat} {Sa Sb:Ses} {O O2:List Int} {E E2:List Ev} {ov hv ov2 hv2:AV} {e:Env} {Q:Env→Store→Prop}
theorem Pair.frz (ta tb:Nat) (h1:ST σ pa Sa O E ov hv τ) (h2:ST τ pb Sb O2 E2 ov2 hv2 s) (ha:e.get ta=some ov) (hb:e.get tb=some ov2) (hne:ta≠tb)
 (hQ:∀ τ' s',SQ σ pa Sa τ'→SQ τ' pb Sb s'→Q ((ta,.sl 1 (O.map cB))::(tb,.sl 1 (O2.map cB))::e) s'):WeakE e s Q:=by
 obtain ⟨bv2,q1,q2,q3,q4,q5,q6,q7⟩:=id h2
 refine WeakE.own (τ:=τ) tb hb q5 q3 fun s1 k1 k2 k3 => ?_
 have hB:SQ τ pb Sb s1:=h2.frz k1 k3
 obtain ⟨bv,a1,a2,a3,a4,a5,a6,a7⟩:=id h1
 have ha':Env.get ((tb,.sl 1 (O2.map cB))::e) ta=some ov:=by
  simp only [Env.get]
  rw [if_neg (by omega)]
  exact ha
 refine WeakE.own (τ:=σ) ta ha' (a5.mono k1) (Store.sub_trans a3 k1) fun s2 m1 m2 m3=>WeakE.pure ?_
 rcases a5 with ⟨hO,rfl⟩ | ⟨g,rfl,hg,hgs⟩
 ·have hs2:Store.sub s1 s2:=fun i o hi=>m3 _ _ hi (fun n h=>by cases h)
  exact hQ τ s2 (h1.frz a3 fun i o hi _=>hi) (by
   obtain ⟨b,c1,c2⟩:=hB
   exact ⟨b,hs2 _ _ c1,c2.mono hs2⟩)
 ·have hτd:Store.sub σ (τ.del g):=sub_del a3 hg
  have A:SQ σ pa Sa (τ.del g):=h1.frz hτd fun i o hi hn=>by rw [Store.del_ne _ (fun e=>by subst e;exact hn _ rfl)];exact hi
  have hd2:Store.sub (τ.del g) s2:=fun i o hi=>by
   have ne:¬ i=g:=fun e=>by subst e;simp at hi
   rw [Store.del_ne _ ne] at hi
   exact m3 _ _ (k1 _ _ hi) (fun n h=>by cases h;exact ne rfl)
  obtain ⟨b,c1,c2,c3,c4,c5,c6,c7⟩:=hB
  have nb:∀ i o,s1 i=some o→τ i=none→s2 i=some o:=fun i o hi ht=>m3 _ _ hi (fun n h=>by cases h;rw [hgs] at ht;cases ht)
  refine hQ (τ.del g) s2 A ⟨b,nb _ _ c1 c2,by rw [Store.del_ne _ (fun e=>by subst e;rw [hgs] at c2;cases c2)];exact c2,hd2,?_,.inl ⟨rfl,rfl⟩,.inl ⟨rfl,rfl⟩,fun _ _ _ _ _ _ _ h=>by cases h⟩
  rcases c4 with h | ⟨g',f,es,rfl,hg',hgs',hgl'⟩
  ·exact .inl h
  ·have q:=nb _ _ hgs' hg'
   refine .inr ⟨g',f,es,rfl,by rw [Store.del_ne _ (fun e=>by subst e;rw [hgs] at hg';cases hg')];exact hg',q,?_⟩
   simp only [slc,hgs',q] at hgl' ⊢
   exact hgl'
end
end Go.Am
namespace Go.Am
open Go.Proofs Go.Sort
structure Kn where
 a:Ses
 b:Ses
 x:List Int
 y:List Int
def kn0:Kn:=⟨(upT (newS 65000 1 90 65001)).1,(upT (newS 65001 2 30 65000)).1,(upT (newS 65000 1 90 65001)).2,(upT (newS 65001 2 30 65000)).2⟩
def Kn.next (k:Kn):Kn:=⟨(feedT (k.a,[],[]) k.y).1,(feedT (k.b,[],[]) k.x).1,(feedT (k.a,[],[]) k.y).2.1,(feedT (k.b,[],[]) k.x).2.1⟩
def kn:Nat→Kn
 | 0=>kn0
 | n+1=>(kn n).next
def Kn.good (k:Kn):Prop:=(k.a.b.length+k.y.length≤400000∧k.b.b.length+k.x.length≤400000)∧(∀ z ∈ k.a.b,0≤z∧z<256)∧(∀ z ∈ k.b.b,0≤z∧z<256)∧(∀ z ∈ k.x,0≤z∧z<256)∧(∀ z ∈ k.y,0≤z∧z<256)∧(0≤k.a.peer∧k.a.peer≤65535)∧(0≤k.b.peer∧k.b.peer≤65535)
instance (k:Kn):Decidable k.good:=by unfold Kn.good;infer_instance
theorem z9f:(kn 0).good:=by decide+kernel
theorem z9g:(kn 1).good:=by decide+kernel
theorem z9h:(kn 2).good:=by decide+kernel
theorem zdi:(kn 3).a.st=4∧(kn 3).b.st=4∧(kn 3).a.theirs=2∧(kn 3).b.theirs=1∧(kn 3).a.peer≠(kn 3).a.asn∧(kn 3).x=[]∧(kn 3).y=[]:=by decide+kernel
end Go.Am
namespace Go.Am.Ts41
open Go.Proofs Go.Am.B
def t27_56:BC:=z [m 56 1,g 57 25 [.t 56],c 58 .eql 57 4,m 59 58,⟨some 60,some (59,true),.pure (.mov),[.t 3]⟩,⟨some 61,some (59,true),.loud (.call 25),[.t 60]⟩,⟨some 62,some (59,true),.pure (.bin .eql),[.t 61,.c (.int .i64 4)]⟩,⟨some 63,none,.pick,[.t 59,.t 62,.c (.bool false)]⟩,m 64 63,⟨some 65,some (64,true),.pure (.mov),[.t 1]⟩,⟨some 66,some (64,true),.loud (.call 31),[.t 65]⟩,⟨some 67,some (64,true),.pure (.bin .eql),[.t 66,.c (.int .u32 2)]⟩,⟨some 68,none,.pick,[.t 64,.t 67,.c (.bool false)]⟩,m 69 68,⟨some 70,some (69,true),.pure (.mov),[.t 3]⟩,⟨some 71,some (69,true),.loud (.call 31),[.t 70]⟩,⟨some 72,some (69,true),.pure (.bin .eql),[.t 71,.c (.int .u32 1)]⟩,⟨some 73,none,.pick,[.t 69,.t 72,.c (.bool false)]⟩,m 74 73,⟨some 75,some (74,true),.pure (.mov),[.t 1]⟩,⟨some 76,some (74,true),.loud (.call 55),[.t 75]⟩,⟨some 77,some (74,true),.pure (.not),[.t 76]⟩,⟨some 78,none,.pick,[.t 74,.t 77,.c (.bool false)]⟩,m 79 78,⟨some 80,some (79,true),.pure (.mov),[.t 5]⟩,⟨some 81,some (79,true),.pure (.len),[.t 80]⟩,⟨some 82,some (79,true),.pure (.mov),[.t 6]⟩,⟨some 83,some (79,true),.pure (.len),[.t 82]⟩,⟨some 84,some (79,true),.pure (.bin .add),[.t 81,.t 83]⟩,⟨some 85,some (79,true),.pure (.bin .eql),[.t 84,.c (.int .i64 0)]⟩,⟨some 86,none,.pick,[.t 79,.t 85,.c (.bool false)]⟩,m 0 86] [0] .ret
def t27_7:BC := .seq (.seq (.wk 6 (.ops [j 7 0] [1,3,5,6,7])) (.block 0 (.loop [1,3,5,6,7] (.seq (z [m 38 7,c 39 .lss 38 3] [1,3,5,6,7,39] (.cond (.t 39) .skip (.exit 0))) (.seq (.block 1 (z [m 43 1,m 44 6,g 45 24 [.t 43,.t 44],m 42 45,e 46 0 42,e 47 1 42,m 8 46,m 9 47] [1,3,5,7,8] (z [m 49 3,m 50 5,g 51 24 [.t 49,.t 50],m 48 51,e 52 0 48,e 53 1 48,m 10 52,m 11 53] [1,3,7,8,10] (.ops [m 54 8,m 55 10,m 5 54,m 6 55] [1,3,5,6,7])))) (.wk 8 (.ops [m 40 7,c 41 .add 40 1,m 7 41] [1,3,5,6,7]))))))) t27_56
def b27:BC:=z [k 0 (.bool false)] [] (z [g 13 28 [.c (.int .u32 65000),.c (.int .u32 1),.c (.int .i64 90),.c (.int .u32 65001)],m 12 13,e 14 0 12,e 15 1 12,m 1 14,m 2 15] [1,2] (z [g 17 28 [.c (.int .u32 65001),.c (.int .u32 2),.c (.int .i64 30),.c (.int .u32 65000)],m 16 17,e 18 0 16,e 19 1 16,m 3 18,m 4 19] [1,2,3,4] (.seq (z [m 20 1,p 21 (.eqnil false true) [.t 20],m 22 21,⟨some 23,some (22,false),.pure (.mov),[.t 3]⟩,⟨some 24,some (22,false),.pure (.eqnil false true),[.t 23]⟩,⟨some 25,none,.pick,[.t 22,.c (.bool true),.t 24]⟩,m 26 25,⟨some 27,some (26,false),.pure (.mov),[.t 2]⟩,⟨some 28,some (26,false),.pure (.bin .neq),[.t 27,.c (.int .i64 0)]⟩,⟨some 29,none,.pick,[.t 26,.c (.bool true),.t 28]⟩,m 30 29,⟨some 31,some (30,false),.pure (.mov),[.t 4]⟩,⟨some 32,some (30,false),.pure (.bin .neq),[.t 31,.c (.int .i64 0)]⟩,⟨some 33,none,.pick,[.t 30,.c (.bool true),.t 32]⟩] [1,3,33] (.cond (.t 33) (z [k 0 (.bool false)] [0] .ret) .skip)) (z [m 34 1,g 35 29 [.t 34],m 36 3,g 37 29 [.t 36],m 5 35,m 6 37] [1,3,5,6] t27_7))))
def F27:Fn Tryz.prog 27:=Fn.mkW false [6,8] b27 [.t 0] 87 Tryz.f27 _ Tryz.func27 (by decide) rfl Tryz.ntmps27 (by kernel_rfl) (by kernel_rfl)
end Go.Am.Ts41
namespace Go.Am
open Go.Proofs Go.Sort
section
variable {σ τ s:Store} {pa pb:Nat} {n rr:Env→Store→Prop} {xx:Nat→Env→Store→Prop}
theorem z7u (ha:SQ σ pa (kn 3).a τ) (hb:SQ τ pb (kn 3).b s) (X:List (Nat×AV)) (h:∀ s',Store.sub σ s'→rr [(0,.bool true)] s') :
 bwp Tryz.prog Ts41.t27_56 ((1,.ptr pa 0)::(3,.ptr pb 0)::(5,.sl 1 ((kn 3).x.map cB))::(6,.sl 1 ((kn 3).y.map cB))::X) s n rr xx:=by
 simp only [Ts41.t27_56]
 obtain ⟨e1,e2,e3,e4,e5,e6,e7⟩:=zdi
 have sσ:=ha.sf.sub
 have sτ:=hb.sf.sub
 obtain ⟨τ2,k1,k2,k3,_⟩:=ST.cut ha sτ
 have sA:=s25 k3.sf
 have sB:=s25 hb.sf
 have iA:=s31 k3.sf
 have iB:=s31 hb.sf
 have nA:=s55 k3.sf
 rw [e1] at sA
 rw [e2] at sB
 rw [e3] at iA
 rw [e4] at iB
 rw [decide_eq_false e5] at nA
 rw [e6,e7]
 simp only [↓vcPre,↓z8,↓reduceIte,vcPost,vcStd,Nat.reduceEqDiff,reduceCtorEq,Nat.reduceAdd,Nat.reduceLeDiff,Int.reduceLT,Int.reduceLE,↓u_setN]
 refine sA.Q ?_
 rintro r s ⟨rfl,rfl⟩
 simp only [↓vcPre,↓z8,↓reduceIte,vcPost,vcStd,Nat.reduceEqDiff,reduceCtorEq,Nat.reduceAdd,Nat.reduceLeDiff,Int.reduceLT,Int.reduceLE,↓u_setN]
 refine sB.Q ?_
 rintro r s ⟨rfl,rfl⟩
 simp only [↓vcPre,↓z8,↓reduceIte,vcPost,vcStd,Nat.reduceEqDiff,reduceCtorEq,Nat.reduceAdd,Nat.reduceLeDiff,Int.reduceLT,Int.reduceLE,↓u_setN]
 refine iA.Q ?_
 rintro r s ⟨rfl,rfl⟩
 simp only [↓vcPre,↓z8,↓reduceIte,vcPost,vcStd,Nat.reduceEqDiff,reduceCtorEq,Nat.reduceAdd,Nat.reduceLeDiff,Int.reduceLT,Int.reduceLE,↓u_setN]
 refine iB.Q ?_
 rintro r s ⟨rfl,rfl⟩
 simp only [↓vcPre,↓z8,↓reduceIte,vcPost,vcStd,Nat.reduceEqDiff,reduceCtorEq,Nat.reduceAdd,Nat.reduceLeDiff,Int.reduceLT,Int.reduceLE,↓u_setN]
 refine nA.Q ?_
 rintro r s ⟨rfl,rfl⟩
 have w0:IntKind.i64.wrap (0+0)=0:=by decide
 simp only [↓vcPre,↓z8,↓reduceIte,vcPost,vcStd,Nat.reduceEqDiff,reduceCtorEq,Nat.reduceAdd,Nat.reduceLeDiff,Int.reduceLT,Int.reduceLE,↓u_setN]
 rw [show decide (IntKind.i64.wrap (((0:Nat):Int)+((0:Nat):Int))=0)=true from by decide]
 exact h _ (Store.sub_trans sσ sτ)
theorem z9x {ov hv ov2 hv2:AV} (ha:ST σ pa kn0.a kn0.x [] ov hv τ) (hb:ST τ pb kn0.b kn0.y [] ov2 hv2 s) (X:List (Nat×AV)) (h:∀ s',Store.sub σ s'→rr [(0,.bool true)] s') :
 bwp Tryz.prog Ts41.t27_7 ((1,.ptr pa 0)::(3,.ptr pb 0)::(5,ov)::(6,ov2)::X) s n rr xx:=by
 simp only [Ts41.t27_7]
 simp only [↓vcPre,↓z8,↓reduceIte,vcPost,vcStd,Nat.reduceEqDiff,reduceCtorEq,Nat.reduceAdd,Nat.reduceLeDiff,Int.reduceLT,Int.reduceLE,↓u_setN]
 refine WkQ.of (Pair.frz 5 6 ha hb rfl rfl (by decide) fun τ' s' qa qb => ?_)
 simp only [↓vcPre,↓z8,↓reduceIte,vcPost,vcStd,Nat.reduceEqDiff,reduceCtorEq,Nat.reduceAdd,Nat.reduceLeDiff,Int.reduceLT,Int.reduceLE,↓u_setN]
 refine LoopQ.inv (S:=Nat×Store) (fun q=>[(1,.ptr pa 0),(3,.ptr pb 0),(5,.sl 1 ((kn q.1).x.map cB)),(6,.sl 1 ((kn q.1).y.map cB)),(7,.int .i64 (q.1:Int))]) (fun q=>q.2) (fun q=>q.1≤3∧∃ τ,SQ σ pa (kn q.1).a τ∧SQ τ pb (kn q.1).b q.2) (fun q=>4 - q.1) (0,s') rfl (Store.sub_refl _) ⟨by simp,τ',qa,qb⟩ ?_
 rintro ⟨i,t⟩ ⟨hi,τ1,ra,rb⟩
 simp only at hi ra rb
 simp only [↓vcPre,↓z8,↓reduceIte,vcPost,vcStd,Nat.reduceEqDiff,reduceCtorEq,Nat.reduceAdd,Nat.reduceLeDiff,Int.reduceLT,Int.reduceLE,↓u_setN]
 refine ⟨fun c1 => ?_,fun c1 => ?_⟩
 ·have hg:(kn i).good:=by
   have:i=0∨i=1∨i=2:=by omega
   rcases this with rfl | rfl | rfl
   ·exact z9f
   ·exact z9g
   ·exact z9h
  obtain ⟨⟨g1,g2⟩,g3,g4,g5,g6,g7,g8⟩:=hg
  have ei:IntKind.i64.wrap ((i:Int)+1)=((i+1:Nat):Int):=by rw [zd (by unfold I64;omega)];omega
  obtain ⟨τ2,k1,k2,k3,k4,_⟩:=ST.cut ra rb.sf.sub
  have bIn:ST σ pb (kn i).b [] [] .nils .nils τ2:=ST.into rb ra.sf.sub k1 k4
  refine (s24 k3 (B:=(kn i).y) Rd.sl g1 g3 g6 g7).Q ?_
  rintro r t2 ⟨ov,hv,rfl,hA⟩
  simp only [↓vcPre,↓z8,↓reduceIte,vcPost,vcStd,Nat.reduceEqDiff,reduceCtorEq,Nat.reduceAdd,Nat.reduceLeDiff,Int.reduceLT,Int.reduceLE,↓u_setN]
  obtain ⟨τ3,m1,m2,m3,m4,_⟩:=ST.cut bIn (show Store.sub τ2 t2 by obtain ⟨_,_,z⟩:=hA;exact z.2.1)
  have aIn:=ST.into hA k1 m1 m4
  refine (s24 m3 (B:=(kn i).x) Rd.sl g2 g4 g5 g8).Q ?_
  rintro r t3 ⟨ov2,hv2,rfl,hB⟩
  simp only [↓vcPre,↓z8,↓reduceIte,vcPost,vcStd,Nat.reduceEqDiff,reduceCtorEq,Nat.reduceAdd,Nat.reduceLeDiff,Int.reduceLT,Int.reduceLE,↓u_setN]
  refine WkQ.of (Pair.frz 5 6 aIn hB rfl rfl (by decide) fun τ' s' qa qb => ?_)
  simp only [ei,↓vcPre,↓z8,↓reduceIte,vcPost,vcStd,Nat.reduceEqDiff,reduceCtorEq,Nat.reduceAdd,Nat.reduceLeDiff,Int.reduceLT,Int.reduceLE,↓u_setN]
  exact NextQ.to (i+1,s') rfl (Store.sub_refl _) (by simp only;omega) ⟨by simp only;omega,τ',qa,qb⟩
 ·have:i=3:=by omega
  subst this
  exact z7u ra rb _ h
end
end Go.Am
namespace Go.Am
open Go.Proofs Go.Sort
section
variable {σ:Store}
set_option maxHeartbeats 1000000 in
theorem c27:ACalls Tryz.prog 27 [] σ (fun r s=>r = .bool true∧Store.sub σ s):=by
 refine ze Ts41.F27 (by simp [Ts41.F27,Fn.mkW]) ?_
 simp only [Ts41.F27,Fn.mkW,Ts41.b27]
 simp only [↓vcPre,↓z8,↓reduceIte,vcPost,vcStd,Nat.reduceEqDiff,reduceCtorEq,Nat.reduceAdd,Nat.reduceLeDiff,Int.reduceLT,Int.reduceLE,↓u_setN]
 refine (s28 σ 65000 1 90 65001).Q ?_
 rintro r s1 (⟨hb,_⟩ | ⟨hk1,pa,rfl,ha⟩)
 ·exact absurd hb (by decide)
 simp only [↓vcPre,↓z8,↓reduceIte,vcPost,vcStd,Nat.reduceEqDiff,reduceCtorEq,Nat.reduceAdd,Nat.reduceLeDiff,Int.reduceLT,Int.reduceLE,↓u_setN]
 refine (s28 s1 65001 2 30 65000).Q ?_
 rintro r s2 (⟨hb,_⟩ | ⟨hk2,pb,rfl,hb⟩)
 ·exact absurd hb (by decide)
 simp only [↓vcPre,↓z8,↓reduceIte,vcPost,vcStd,Nat.reduceEqDiff,reduceCtorEq,Nat.reduceAdd,Nat.reduceLeDiff,Int.reduceLT,Int.reduceLE,↓u_setN]
 obtain ⟨τ2,k1,k2,k3,k4,_⟩:=ST.cut ha hb.sf.sub
 have bIn:ST σ pb (newS 65001 2 30 65000) [] [] .nils .nils τ2:=ST.into hb ha.sf.sub k1 k4
 refine (s29 k3 hk1).Q ?_
 rintro r s3 ⟨ov,hv,rfl,hA⟩
 simp only [↓vcPre,↓z8,↓reduceIte,vcPost,vcStd,Nat.reduceEqDiff,reduceCtorEq,Nat.reduceAdd,Nat.reduceLeDiff,Int.reduceLT,Int.reduceLE,↓u_setN]
 obtain ⟨τ3,m1,m2,m3,m4,_⟩:=ST.cut bIn (show Store.sub τ2 s3 by obtain ⟨_,_,z⟩:=hA;exact z.2.1)
 have aIn:=ST.into hA k1 m1 m4
 refine (s29 m3 hk2).Q ?_
 rintro r s4 ⟨ov2,hv2,rfl,hB⟩
 simp only [↓vcPre,↓z8,↓reduceIte,vcPost,vcStd,Nat.reduceEqDiff,reduceCtorEq,Nat.reduceAdd,Nat.reduceLeDiff,Int.reduceLT,Int.reduceLE,↓u_setN]
 exact z9x aIn hB _ fun s' hs=>EndQ.to _ _ rfl (Store.sub_refl _) ⟨rfl,hs⟩
end
end Go.Am
namespace Go.Am
open Go.Proofs Go.Sort
deriving instance DecidableEq for Ses
def askC (k h:Int):List AV:=[.int .i64 k,.int .i64 0,.int .i64 h,.nils,.bool false,.int .i64 0,.nils,.int .u32 0,.bool false,.int .u32 0,.bool false,.int .u32 0,.bool false,.nils,.nils,.int .i64 0,.int .i64 0,.nils,.nils,.int .i64 0,.int .u8 0]
def ask0 (k h:Int):Ask:=⟨k,0,h,zeroUp,⟨0,0,[]⟩,[],0,0⟩
theorem zan {f:Nat} {b:AV} {cells cells':List AV} {s:Store} {Q:AV→Store→Prop} (hi:ImpL cells cells') (h:ACalls Tryz.prog f [.agg cells',b] s Q):ACalls Tryz.prog f [.agg cells,b] s Q :=
 ACalls.weakArgs h.1 (WeakL.pos 0 rfl (up hi (WeakL.pure h)))
theorem zd2 (k h:Int):ImpL (askC k h) (ask0 k h).c :=
 .cons (.refl rfl) (.cons (.refl rfl) (.cons (.refl rfl) (.cons .nils (.cons (.refl rfl) (.cons (.refl rfl) (.cons .nils (.cons (.refl rfl) (.cons (.refl rfl) (.cons (.refl rfl) (.cons (.refl rfl) (.cons (.refl rfl) (.cons (.refl rfl) (.cons .nils (.cons .nils (.cons (.refl rfl) (.cons (.refl rfl) (.cons .nils (.cons .nils (.cons (.refl rfl) (.cons (.refl rfl) .nil))))))))))))))))))))
theorem z9c:I64 0:=by unfold I64;omega
theorem zao (k h:Int):(ask0 k h).Ok:=⟨z9c,z9c,z9c,by simp [ask0,zeroUp,zeroAt],by simp [ask0,zeroUp]⟩
section
variable {σ τ s s1:Store} {p:Nat} {S:Ses} {O:List Int} {E:List Ev} {ov hv v:AV} {B:List Int}
theorem ST.sub (h:ST σ p S O E ov hv s):Store.sub σ s:=by obtain ⟨_,_,z⟩:=h;exact z.2.1
theorem ST.drop (h:ST σ p S O E ov hv s):SQ σ p S s:=h.frz h.sub fun _ _ h _=>h
theorem SQ.grow (h:SQ σ p S s) (hs:Store.sub s s1):SQ σ p S s1:=by
 obtain ⟨bv,h1,h2⟩:=h
 exact ⟨bv,hs _ _ h1,h2.mono hs⟩
theorem xe (k h:Int) (peer:Int) (hp:0≤peer∧peer≤65535):ACalls Tryz.prog 23 [.agg (askC k h),.int .u32 peer] σ (fun r s=>Store.sub σ s∧Own 1 σ ((bytesF (ask0 k h) peer).map cB) r s) :=
 zan (zd2 k h) (s23 (ask0 k h) (zao k h) peer hp)
theorem xu (k h peer:Int):U8s (bytesF (ask0 k h) peer):=z6v _ _ (fun y hy=>by cases hy)
theorem xw (h:SQ τ p S s) (hs:Store.sub s s1) (ho:Own 1 s (B.map cB) v s1) (hb:S.b.length≤100000) (hB:B.length≤100000) (h1:U8s S.b) (h2:U8s B) (hp:0≤S.peer∧S.peer≤65535) :
 ACalls Tryz.prog 24 [.ptr p 0,v] s1 (fun r s'=>∃ ov hv,r = .tup [ov,hv]∧ST τ p (feedT (S,[],[]) B).1 (feedT (S,[],[]) B).2.1 (feedT (S,[],[]) B).2.2 ov hv s') :=
 s24 (h.grow hs) (Rd.own ho) (by omega) h1 h2 hp
end
def upM (hold peer:Int):Ses:=(feedT ((upT (newS 65000 1 hold peer)).1,[],[]) (bytesF (ask0 4 90) peer)).1
def upE (hold peer:Int):Ses:=(feedT (upM hold peer,[],[]) (bytesF (ask0 5 0) peer)).1
def upW (hold peer:Int):Ses:=⟨65000,1,hold,peer,4,[],7,if hold<90 then hold else 90,0,0⟩
def UpOk (hold peer:Int):Prop:=¬ badS 65000 1 hold peer∧(upM hold peer).b=[]∧(upM hold peer).peer=peer∧upE hold peer=upW hold peer
instance (a b:Int):Decidable (UpOk a b):=by unfold UpOk;infer_instance
theorem zhb:∀ t:Fin 30,UpOk (3*(1+(t.val:Int))) 65001:=by decide+kernel
section
variable {σ:Store}
theorem s21 {hold peer:Int} (hp:0≤peer∧peer≤65535) (hu:UpOk hold peer):ACalls Tryz.prog 21 [.int .i64 hold,.int .u32 peer] σ (fun r s=>∃ p,r = .ptr p 0∧SQ σ p (upW hold peer) s):=by
 refine ze Tst.F21 (by simp [Tst.F21,Fn.mkX]) ?_
 simp only [Tst.F21,Fn.mkX,Tst.b21]
 obtain ⟨hk,hM,hMp,hE⟩:=hu
 simp only [↓vcPre,↓z8,↓reduceIte,vcPost,vcStd,Nat.reduceEqDiff,reduceCtorEq,Nat.reduceAdd,Nat.reduceLeDiff,Int.reduceLT,Int.reduceLE,↓u_setN]
 refine (s28 σ 65000 1 hold peer).Q ?_
 rintro r s1 (⟨hb,_⟩ | ⟨hk1,p,rfl,ha⟩)
 ·exact absurd hb hk
 simp only [↓vcPre,↓z8,↓reduceIte,vcPost,vcStd,Nat.reduceEqDiff,reduceCtorEq,Nat.reduceAdd,Nat.reduceLeDiff,Int.reduceLT,Int.reduceLE,↓u_setN]
 refine (s29 ha hk1).Q ?_
 rintro r s2 ⟨ov,hv,rfl,hA⟩
 have hA:=hA.drop
 simp only [↓vcPre,↓z8,↓reduceIte,vcPost,vcStd,Nat.reduceEqDiff,reduceCtorEq,Nat.reduceAdd,Nat.reduceLeDiff,Int.reduceLT,Int.reduceLE,↓u_setN]
 refine (xe 4 90 peer hp).Q ?_
 rintro r s3 ⟨q1,q2⟩
 simp only [↓vcPre,↓z8,↓reduceIte,vcPost,vcStd,Nat.reduceEqDiff,reduceCtorEq,Nat.reduceAdd,Nat.reduceLeDiff,Int.reduceLT,Int.reduceLE,↓u_setN]
 refine (xw hA q1 q2 (by simp [upT,newS]) (Nat.le_trans (yo _ _) (by decide)) (by simp [upT,newS];exact fun y hy=>by cases hy) (xu _ _ _) (by simpa [upT,newS] using hp)).Q ?_
 rintro r s4 ⟨ov,hv,rfl,hA⟩
 have hA:SQ σ p (upM hold peer) s4:=hA.drop
 simp only [↓vcPre,↓z8,↓reduceIte,vcPost,vcStd,Nat.reduceEqDiff,reduceCtorEq,Nat.reduceAdd,Nat.reduceLeDiff,Int.reduceLT,Int.reduceLE,↓u_setN]
 refine (xe 5 0 peer hp).Q ?_
 rintro r s5 ⟨q1,q2⟩
 simp only [↓vcPre,↓z8,↓reduceIte,vcPost,vcStd,Nat.reduceEqDiff,reduceCtorEq,Nat.reduceAdd,Nat.reduceLeDiff,Int.reduceLT,Int.reduceLE,↓u_setN]
 refine (xw hA q1 q2 (by rw [hM];simp) (Nat.le_trans (yo _ _) (by decide)) (by rw [hM];exact fun y hy=>by cases hy) (xu _ _ _) (by rw [hMp];exact hp)).Q ?_
 rintro r s6 ⟨ov,hv,rfl,hA⟩
 have hA:SQ σ p (upE hold peer) s6:=hA.drop
 rw [hE] at hA
 simp only [↓vcPre,↓z8,↓reduceIte,vcPost,vcStd,Nat.reduceEqDiff,reduceCtorEq,Nat.reduceAdd,Nat.reduceLeDiff,Int.reduceLT,Int.reduceLE,↓u_setN]
 refine (s25 hA.sf).Q ?_
 rintro r s6 ⟨rfl,rfl⟩
 have h4:(upW hold peer).st=4:=rfl
 rw [h4]
 simp only [↓vcPre,↓z8,↓reduceIte,vcPost,vcStd,Nat.reduceEqDiff,reduceCtorEq,Nat.reduceAdd,Nat.reduceLeDiff,Int.reduceLT,Int.reduceLE,↓u_setN]
 exact EndQ.to _ _ rfl (Store.sub_refl _) ⟨p,rfl,hA⟩
end
end Go.Am
namespace Go.Am.Ts42
open Go.Proofs Go.Am.B
def t7_79:BC := .seq (z [m 79 11] [5,7,8,9,10,79] (.cond (.t 79) (z [m 80 5,g 81 25 [.t 80],c 82 .neq 81 1,m 83 82,⟨some 84,some (83,true),.loud (.call 27),[]⟩,⟨some 85,none,.pick,[.t 83,.t 84,.c (.bool false)]⟩,m 4 85] [4] .ret) .skip)) (.seq (z [m 86 5,g 87 25 [.t 86],c 88 .neq 87 1,m 89 88,⟨some 90,some (89,false),.pure (.mov),[.t 10]⟩,⟨some 91,some (89,false),.pure (.len),[.t 90]⟩,⟨some 92,some (89,false),.pure (.bin .eql),[.t 91,.c (.int .i64 1)]⟩,⟨some 93,some (89,false),.pure (.mov),[.t 7]⟩,⟨some 94,some (89,false),.pure (.bin .eql),[.t 93,.c (.int .i64 2)]⟩,⟨some 95,some (89,false),.pure (.eqb true),[.t 92,.t 94]⟩,⟨some 96,none,.pick,[.t 89,.c (.bool true),.t 95]⟩] [8,9,96] (.cond (.t 96) (z [k 4 (.bool false)] [4] .ret) .skip)) (.seq (z [m 97 8,c 98 .eql 97 7] [9,98] (.cond (.t 98) (z [m 99 9,u 100 .len 99,c 101 .eql 100 0,m 102 101,⟨some 103,some (102,true),.loud (.call 27),[]⟩,⟨some 104,none,.pick,[.t 102,.t 103,.c (.bool false)]⟩,m 4 104] [4] .ret) .skip)) (z [m 105 9,u 106 .len 105,c 107 .eql 106 21,m 108 107,⟨some 109,some (108,true),.pure (.mov),[.t 9]⟩,⟨some 110,some (108,true),.pure (.idx 1),[.t 109,.c (.int .i64 18)]⟩,⟨some 111,some (108,true),.load (.ld 1 false),[.t 110]⟩,⟨some 112,some (108,true),.pure (.bin .eql),[.t 111,.c (.int .u8 3)]⟩,⟨some 113,none,.pick,[.t 108,.t 112,.c (.bool false)]⟩,m 114 113,⟨some 115,some (114,true),.pure (.mov),[.t 9]⟩,⟨some 116,some (114,true),.pure (.idx 1),[.t 115,.c (.int .i64 19)]⟩,⟨some 117,some (114,true),.load (.ld 1 false),[.t 116]⟩,⟨some 118,some (114,true),.pure (.bin .eql),[.t 117,.c (.int .u8 5)]⟩,⟨some 119,none,.pick,[.t 114,.t 118,.c (.bool false)]⟩,m 120 119,⟨some 121,some (120,true),.pure (.mov),[.t 9]⟩,⟨some 122,some (120,true),.pure (.idx 1),[.t 121,.c (.int .i64 20)]⟩,⟨some 123,some (120,true),.load (.ld 1 false),[.t 122]⟩,⟨some 124,some (120,true),.pure (.bin .eql),[.t 123,.c (.int .u8 0)]⟩,⟨some 125,none,.pick,[.t 120,.t 124,.c (.bool false)]⟩,m 126 125,⟨some 127,some (126,true),.loud (.call 27),[]⟩,⟨some 128,none,.pick,[.t 126,.t 127,.c (.bool false)]⟩,m 4 128] [4] .ret)))
def t7_46:BC:=z [m 46 5,m 47 8,p 48 (.build [(.int .i64 0),(.int .i64 0),(.int .i64 0),.nils,(.bool false),(.int .i64 0),.nils,(.int .u32 0),(.bool false),(.int .u32 0),(.bool false),(.int .u32 0),(.bool false),.nils,.nils,(.int .i64 0),(.int .i64 0),.nils,.nils,(.int .i64 0),(.int .u8 0)] [(0,1),(2,1)]) [.t 47,.c (.int .i64 90)],g 49 23 [.t 48,.c (.int .u32 65001)],g 50 24 [.t 46,.t 49],m 45 50,e 51 0 45,e 52 1 45,m 9 51,m 10 52] [5,7,8,9,10] (z [m 53 7,c 54 .eql 53 0,m 55 54,⟨some 56,some (55,true),.pure (.mov),[.t 8]⟩,⟨some 57,some (55,true),.pure (.bin .eql),[.t 56,.c (.int .i64 4)]⟩,⟨some 58,none,.pick,[.t 55,.t 57,.c (.bool false)]⟩,m 59 58,⟨some 60,some (59,false),.pure (.mov),[.t 7]⟩,⟨some 61,some (59,false),.pure (.bin .eql),[.t 60,.c (.int .i64 1)]⟩,⟨some 62,some (59,false),.pure (.mov),[.t 61]⟩,⟨some 63,some (62,true),.pure (.mov),[.t 8]⟩,⟨some 64,some (62,true),.pure (.bin .eql),[.t 63,.c (.int .i64 5)]⟩,⟨some 65,some (59,false),.pick,[.t 62,.t 64,.c (.bool false)]⟩,⟨some 66,none,.pick,[.t 59,.c (.bool true),.t 65]⟩,m 67 66,⟨some 68,some (67,false),.pure (.mov),[.t 7]⟩,⟨some 69,some (67,false),.pure (.bin .eql),[.t 68,.c (.int .i64 2)]⟩,⟨some 70,some (67,false),.pure (.mov),[.t 69]⟩,⟨some 71,some (70,true),.pure (.mov),[.t 8]⟩,⟨some 72,some (70,true),.pure (.bin .eql),[.t 71,.c (.int .i64 5)]⟩,⟨some 73,some (70,true),.pure (.mov),[.t 72]⟩,⟨some 74,some (73,false),.pure (.mov),[.t 8]⟩,⟨some 75,some (73,false),.pure (.bin .eql),[.t 74,.c (.int .i64 6)]⟩,⟨some 76,some (70,true),.pick,[.t 73,.c (.bool true),.t 75]⟩,⟨some 77,some (67,false),.pick,[.t 70,.t 76,.c (.bool false)]⟩,⟨some 78,none,.pick,[.t 67,.c (.bool true),.t 77]⟩,m 11 78] [5,7,8,9,10,11] t7_79)
def t7_38:BC := .seq (z [m 38 5,g 39 25 [.t 38],m 40 7,p 41 (.bin .add) [.c (.int .i64 2),.t 40],b 42 .neq 39 41] [1,5,7,42] (.cond (.t 42) (z [k 4 (.bool false)] [4] .ret) .skip)) (z [m 43 1,g 44 22 [.t 43,.c (.int .i64 4),.c (.int .i64 7)],m 8 44] [5,7,8] t7_46)
def t7_32:BC := .seq (z [m 32 7,c 33 .geq 32 2] [1,5,7,33] (.cond (.t 33) (.ops [m 34 5,p 35 (.build [(.int .i64 0),(.int .i64 0),(.int .i64 0),.nils,(.bool false),(.int .i64 0),.nils,(.int .u32 0),(.bool false),(.int .u32 0),(.bool false),(.int .u32 0),(.bool false),.nils,.nils,(.int .i64 0),(.int .i64 0),.nils,.nils,(.int .i64 0),(.int .u8 0)] [(0,1)]) [.c (.int .i64 5)],g 36 23 [.t 35,.c (.int .u32 65001)],g 37 24 [.t 34,.t 36]] [1,5,7]) .skip)) t7_38
def b7:BC:=z [k 4 (.bool false)] [0,1] (z [g 13 28 [.c (.int .u32 65000),.c (.int .u32 1),.c (.int .i64 90),.c (.int .u32 65001)],m 12 13,e 14 0 12,e 15 1 12,m 5 14,m 6 15] [0,1,5,6] (.seq (z [m 16 5,p 17 (.eqnil false true) [.t 16],m 18 17,⟨some 19,some (18,false),.pure (.mov),[.t 6]⟩,⟨some 20,some (18,false),.pure (.bin .neq),[.t 19,.c (.int .i64 0)]⟩,⟨some 21,none,.pick,[.t 18,.c (.bool true),.t 20]⟩] [0,1,5,21] (.cond (.t 21) (z [k 4 (.bool false)] [4] .ret) .skip)) (z [m 22 5,g 23 29 [.t 22]] [0,1,5] (z [m 24 0,g 25 22 [.t 24,.c (.int .i64 0),.c (.int .i64 2)],m 7 25] [1,5,7] (.seq (z [m 26 7,c 27 .geq 26 1] [1,5,7,27] (.cond (.t 27) (.ops [m 28 5,p 29 (.build [(.int .i64 0),(.int .i64 0),(.int .i64 0),.nils,(.bool false),(.int .i64 0),.nils,(.int .u32 0),(.bool false),(.int .u32 0),(.bool false),(.int .u32 0),(.bool false),.nils,.nils,(.int .i64 0),(.int .i64 0),.nils,.nils,(.int .i64 0),(.int .u8 0)] [(0,1),(2,1)]) [.c (.int .i64 4),.c (.int .i64 90)],g 30 23 [.t 29,.c (.int .u32 65001)],g 31 24 [.t 28,.t 30]] [1,5,7]) .skip)) t7_32)))))
def F7:Fn Tryz.prog 7:=Fn.mkX false b7 [.t 4] 129 Tryz.f7 _ Tryz.func7 (by decide) rfl Tryz.ntmps7 (by kernel_rfl) (by kernel_rfl)
end Go.Am.Ts42
namespace Go.Am
open Go.Proofs Go.Sort
def wS (n:Nat):Ses:=match n with
 | 0=>(upT (newS 65000 1 90 65001)).1
 | 1=>upM 90 65001
 | _=>upE 90 65001
def wR (n k:Nat):Tri:=feedT (wS n,[],[]) (bytesF (ask0 (k:Int) 90) 65001)
def wG (n k:Nat):Bool:=(n ==0 && k ==4) || (n ==1 && k ==5) || (n ==2 && (k ==5 || k ==6))
structure WOk (T:Tri) (n k:Int) (g:Bool):Prop where
 yes:g=true→T.1.st≠1
 st:g=false→T.1.st=1
 ev:g=false→(T.2.2.length=1↔n=2)
 k7:g=false→k=7→T.2.1.length=0
 o:g=false→k≠7→T.2.1.length=21∧T.2.1.getD 18 0=3∧T.2.1.getD 19 0=5∧T.2.1.getD 20 0=0
def wB (n k:Nat):Bool:=(wS n).st ==2+n && (wS n).b.length ==0 && (wS n).peer ==65001 && (if wG n k then (wR n k).1.st != 1 else (wR n k).1.st ==1 && (decide ((wR n k).2.2.length=1) ==decide (n=2)) && (if k=7 then (wR n k).2.1.length ==0 else (wR n k).2.1.length ==21 && (wR n k).2.1.getD 18 0 ==3 && (wR n k).2.1.getD 19 0 ==5 && (wR n k).2.1.getD 20 0 ==0))
theorem z8m:∀ n:Fin 3,∀ k:Fin 4,wB n.val (4+k.val)=true:=by decide+kernel
section
variable {σ s:Store} {p:Nat} {nn rr:Env→Store→Prop} {xx:Nat→Env→Store→Prop}
set_option maxHeartbeats 1000000 in
theorem z83 {T:Tri} {n k:Int} {g:Bool} (hw:WOk T n k g) {ov hv:AV} (h:ST σ p T.1 T.2.1 T.2.2 ov hv s) (X:List (Nat×AV)) (hr:∀ s',Store.sub σ s'→rr [(4,.bool true)] s') :
 bwp Tryz.prog Ts42.t7_79 ((5,.ptr p 0)::(7,.int .i64 n)::(8,.int .i64 k)::(9,ov)::(10,hv)::(11,.bool g)::X) s nn rr xx:=by
 simp only [Ts42.t7_79]
 have hst:=s25 h.sn.sf
 obtain ⟨bv,z1,z2,z3,z4,z5,z6,z7⟩:=id h
 have z3':=z3
 have lo:pv .len [ov]=some (.int .i64 (T.2.1.length:Int)):=by rw [(Rd.own z5).2];simp
 have lh:pv .len [hv]=some (.int .i64 (T.2.2.length:Int)):=by rw [(Rd.own z6).2];simp
 simp only [↓vcPre,↓z8,↓reduceIte,vcPost,vcStd,Nat.reduceEqDiff,reduceCtorEq,Nat.reduceAdd,Nat.reduceLeDiff,Int.reduceLT,Int.reduceLE,↓u_setN]
 cases g
 ·have a1:=hw.st rfl
  have a2:=hw.ev rfl
  rw [a1] at hst
  simp only [↓vcPre,↓z8,↓reduceIte,vcPost,vcStd,Nat.reduceEqDiff,reduceCtorEq,Nat.reduceAdd,Nat.reduceLeDiff,Int.reduceLT,Int.reduceLE,↓u_setN]
  refine hst.Q ?_
  rintro r s ⟨rfl,rfl⟩
  simp only [lh,↓vcPre,↓z8,↓reduceIte,vcPost,vcStd,Nat.reduceEqDiff,reduceCtorEq,Nat.reduceAdd,Nat.reduceLeDiff,Int.reduceLT,Int.reduceLE,↓u_setN]
  have e1:(decide ((T.2.2.length:Int)=1) != decide (n=2))=false:=by
   by_cases c:n=2
   ·have:=a2.2 c
    rw [decide_eq_true c,decide_eq_true (by omega)];rfl
   ·rw [decide_eq_false c,decide_eq_false (fun h=>c (a2.1 (by omega)))];rfl
  rw [e1]
  simp only [↓vcPre,↓z8,↓reduceIte,vcPost,vcStd,Nat.reduceEqDiff,reduceCtorEq,Nat.reduceAdd,Nat.reduceLeDiff,Int.reduceLT,Int.reduceLE,↓u_setN]
  refine ⟨fun c7 => ?_,fun c7 => ?_⟩
  ·have lo:pv .len [ov]=some (.int .i64 0):=by rw [lo,hw.k7 rfl c7];rfl
   simp only [lo,↓vcPre,↓z8,↓reduceIte,vcPost,vcStd,Nat.reduceEqDiff,reduceCtorEq,Nat.reduceAdd,Nat.reduceLeDiff,Int.reduceLT,Int.reduceLE,↓u_setN]
   refine c27.Q ?_
   rintro r s ⟨rfl,hs⟩
   simp only [↓vcPre,↓z8,↓reduceIte,vcPost,vcStd,Nat.reduceEqDiff,reduceCtorEq,Nat.reduceAdd,Nat.reduceLeDiff,Int.reduceLT,Int.reduceLE,↓u_setN]
   exact hr _ (Store.sub_trans z3' hs)
  ·obtain ⟨b1,b2,b3,b4⟩:=hw.o rfl c7
   obtain ⟨q0,a0,r0⟩:=Rd.byte (Rd.own z5) (k:=18) (by omega)
   obtain ⟨q1,a1,r1⟩:=Rd.byte (Rd.own z5) (k:=19) (by omega)
   obtain ⟨q2,a2,r2⟩:=Rd.byte (Rd.own z5) (k:=20) (by omega)
   have a0:pv (.idx 1) [ov,.int .i64 18]=some q0:=a0
   have a1:pv (.idx 1) [ov,.int .i64 19]=some q1:=a1
   have a2:pv (.idx 1) [ov,.int .i64 20]=some q2:=a2
   have r0:=r0 _ (Store.sub_refl _)
   have r1:=r1 _ (Store.sub_refl _)
   have r2:=r2 _ (Store.sub_refl _)
   rw [b2] at r0
   rw [b3] at r1
   rw [b4] at r2
   have lo:pv .len [ov]=some (.int .i64 21):=by rw [lo,b1];rfl
   simp only [lo,a0,r0,a1,r1,a2,r2,↓vcPre,↓z8,↓reduceIte,vcPost,vcStd,Nat.reduceEqDiff,reduceCtorEq,Nat.reduceAdd,Nat.reduceLeDiff,Int.reduceLT,Int.reduceLE,↓u_setN]
   refine c27.Q ?_
   rintro r s ⟨rfl,hs⟩
   simp only [↓vcPre,↓z8,↓reduceIte,vcPost,vcStd,Nat.reduceEqDiff,reduceCtorEq,Nat.reduceAdd,Nat.reduceLeDiff,Int.reduceLT,Int.reduceLE,↓u_setN]
   exact hr _ (Store.sub_trans z3' hs)
 ·have a1:=hw.yes rfl
  simp only [↓vcPre,↓z8,↓reduceIte,vcPost,vcStd,Nat.reduceEqDiff,reduceCtorEq,Nat.reduceAdd,Nat.reduceLeDiff,Int.reduceLT,Int.reduceLE,↓u_setN]
  refine hst.Q ?_
  rintro r s ⟨rfl,rfl⟩
  simp only [↓vcPre,↓z8,↓reduceIte,vcPost,vcStd,Nat.reduceEqDiff,reduceCtorEq,Nat.reduceAdd,Nat.reduceLeDiff,Int.reduceLT,Int.reduceLE,↓u_setN]
  refine ⟨fun _ => ?_,fun c=>absurd c a1⟩
  refine c27.Q ?_
  rintro r s ⟨rfl,hs⟩
  simp only [↓vcPre,↓z8,↓reduceIte,vcPost,vcStd,Nat.reduceEqDiff,reduceCtorEq,Nat.reduceAdd,Nat.reduceLeDiff,Int.reduceLT,Int.reduceLE,↓u_setN]
  exact hr _ (Store.sub_trans z3' hs)
theorem zhf {n k:Nat} (h:wB n k=true):WOk (wR n k) n k (wG n k):=by
 unfold wB at h
 simp only [Bool.and_eq_true] at h
 obtain ⟨_,h⟩:=h
 cases hg:wG n k
 ·rw [hg] at h
  simp at h
  obtain ⟨⟨h1,h2⟩,h3⟩:=h
  refine ⟨by simp,fun _=>h1,fun _=>by omega,fun _ h7 => ?_,fun _ h7 => ?_⟩
  ·rw [if_pos (by omega)] at h3
   simpa using h3
  ·rw [if_neg (by omega)] at h3
   obtain ⟨⟨⟨x1,x2⟩,x3⟩,x4⟩:=h3
   exact ⟨x1,by simpa using x2,by simpa using x3,by simpa using x4⟩
 ·rw [hg] at h
  simp at h
  exact ⟨fun _=>h,by simp,by simp,by simp,by simp⟩
set_option maxHeartbeats 1000000 in
theorem z82 {n k:Nat} (hn:n<3) (hk:k<4) (h:SQ σ p (wS n) s) (X:List (Nat×AV)) (hr:∀ s',Store.sub σ s'→rr [(4,.bool true)] s') :
 bwp Tryz.prog Ts42.t7_46 ((5,.ptr p 0)::(7,.int .i64 (n:Int))::(8,.int .i64 ((4+k:Nat):Int))::X) s nn rr xx:=by
 simp only [Ts42.t7_46]
 have hB:=z8m ⟨n,hn⟩ ⟨k,hk⟩
 simp only at hB
 have hW:=zhf hB
 unfold wB at hB
 simp only [Bool.and_eq_true] at hB
 obtain ⟨⟨⟨_,hb⟩,hp⟩,_⟩:=hB
 simp at hb hp
 simp only [↓vcPre,↓z8,↓reduceIte,vcPost,vcStd,Nat.reduceEqDiff,reduceCtorEq,Nat.reduceAdd,Nat.reduceLeDiff,Int.reduceLT,Int.reduceLE,↓u_setN]
 refine (xe ((4+k:Nat):Int) 90 65001 (by omega)).Q ?_
 rintro r s3 ⟨q1,q2⟩
 simp only [↓vcPre,↓z8,↓reduceIte,vcPost,vcStd,Nat.reduceEqDiff,reduceCtorEq,Nat.reduceAdd,Nat.reduceLeDiff,Int.reduceLT,Int.reduceLE,↓u_setN]
 refine (xw h q1 q2 (by rw [hb];simp) (Nat.le_trans (yo _ _) (by decide)) (by rw [hb];exact fun y hy=>by cases hy) (xu _ _ _) (by omega)).Q ?_
 rintro r s4 ⟨ov,hv,rfl,hA⟩
 have key:∀ b:Bool,b=wG n (4+k)→bwp Tryz.prog Ts42.t7_79 [(5,.ptr p 0),(7,.int .i64 (n:Int)),(8,.int .i64 ((4+k:Nat):Int)),(9,ov),(10,hv),(11,.bool b)] s4 nn rr xx:=fun b hb=>by
  subst hb
  exact z83 hW hA _ hr
 simp only [↓vcPre,↓z8,↓reduceIte,vcPost,vcStd,Nat.reduceEqDiff,reduceCtorEq,Nat.reduceAdd,Nat.reduceLeDiff,Int.reduceLT,Int.reduceLE,↓u_setN]
 repeat' (with_reducible refine And.intro (fun _ => ?_) (fun _ => ?_))
 all_goals first
  | exact key _ (by rw [eq_comm,Bool.eq_iff_iff];simp [wG];omega)
  | (exfalso;omega)
set_option maxHeartbeats 1000000 in
theorem z81 {n:Nat} (hn:n<3) (h:SQ σ p (wS n) s) {which:Int} (hwi:I64 which) (X:List (Nat×AV)) (hr:∀ s',Store.sub σ s'→rr [(4,.bool true)] s') :
 bwp Tryz.prog Ts42.t7_38 ((1,.int .i64 which)::(5,.ptr p 0)::(7,.int .i64 (n:Int))::X) s nn rr xx:=by
 simp only [Ts42.t7_38]
 have hB:=z8m ⟨n,hn⟩ ⟨0,by omega⟩
 simp only [wB,Bool.and_eq_true] at hB
 have hs:(wS n).st=2+n:=by simpa using hB.1.1.1
 have w2:IntKind.i64.wrap (2+(n:Int))=2+n:=zd (by unfold I64;omega)
 simp only [↓vcPre,↓z8,↓reduceIte,vcPost,vcStd,Nat.reduceEqDiff,reduceCtorEq,Nat.reduceAdd,Nat.reduceLeDiff,Int.reduceLT,Int.reduceLE,↓u_setN]
 refine (s25 h.sf).Q ?_
 rintro r s ⟨rfl,rfl⟩
 rw [hs]
 simp only [w2,↓vcPre,↓z8,↓reduceIte,vcPost,vcStd,Nat.reduceEqDiff,reduceCtorEq,Nat.reduceAdd,Nat.reduceLeDiff,Int.reduceLT,Int.reduceLE,↓u_setN]
 refine (c22 which 4 7 hwi (by omega) (by omega) (by omega)).Q ?_
 obtain ⟨k,hk,e⟩:∃ k:Nat,k<4∧(4:Int)+which % (7 - 4+1)=((4+k:Nat):Int):=⟨(which % 4).toNat,by omega,by omega⟩
 rw [e]
 simp only [↓vcPre,↓z8,↓reduceIte,vcPost,vcStd,Nat.reduceEqDiff,reduceCtorEq,Nat.reduceAdd,Nat.reduceLeDiff,Int.reduceLT,Int.reduceLE,↓u_setN]
 exact z82 hn hk h _ hr
theorem wS1:(wS 0).b=[]∧(wS 0).peer=65001∧(wS 1).b=[]∧(wS 1).peer=65001:=by decide+kernel
set_option maxHeartbeats 1000000 in
theorem s7 (at_ which:Int) (h1:I64 at_) (h2:I64 which):ACalls Tryz.prog 7 [.int .i64 at_,.int .i64 which] σ (fun r s=>r = .bool true∧Store.sub σ s):=by
 refine ze Ts42.F7 (by simp [Ts42.F7,Fn.mkX]) ?_
 simp only [Ts42.F7,Fn.mkX,Ts42.b7]
 obtain ⟨y1,y2,y3,y4⟩:=wS1
 simp only [↓vcPre,↓z8,↓reduceIte,vcPost,vcStd,Nat.reduceEqDiff,reduceCtorEq,Nat.reduceAdd,Nat.reduceLeDiff,Int.reduceLT,Int.reduceLE,↓u_setN]
 refine (s28 σ 65000 1 90 65001).Q ?_
 rintro r s1 (⟨hb,_⟩ | ⟨hk1,p,rfl,ha⟩)
 ·exact absurd hb (by decide)
 simp only [↓vcPre,↓z8,↓reduceIte,vcPost,vcStd,Nat.reduceEqDiff,reduceCtorEq,Nat.reduceAdd,Nat.reduceLeDiff,Int.reduceLT,Int.reduceLE,↓u_setN]
 refine (s29 ha hk1).Q ?_
 rintro r s2 ⟨ov,hv,rfl,hA⟩
 have hA:SQ σ p (wS 0) s2:=hA.drop
 simp only [↓vcPre,↓z8,↓reduceIte,vcPost,vcStd,Nat.reduceEqDiff,reduceCtorEq,Nat.reduceAdd,Nat.reduceLeDiff,Int.reduceLT,Int.reduceLE,↓u_setN]
 refine (c22 at_ 0 2 h1 (by omega) (by omega) (by omega)).Q ?_
 obtain ⟨n,hn,e⟩:∃ n:Nat,n<3∧(0:Int)+at_ % (2 - 0+1)=(n:Int):=⟨(at_ % 3).toNat,by omega,by omega⟩
 rw [e]
 simp only [↓vcPre,↓z8,↓reduceIte,vcPost,vcStd,Nat.reduceEqDiff,reduceCtorEq,Nat.reduceAdd,Nat.reduceLeDiff,Int.reduceLT,Int.reduceLE,↓u_setN]
 have fin:∀ t X,SQ σ p (wS n) t→bwp Tryz.prog Ts42.t7_38 ((1,.int .i64 which)::(5,.ptr p 0)::(7,.int .i64 (n:Int))::X) t (fun e τ' => @EndQ e τ' ⟨Ts42.F7.slots,fun r s=>r = .bool true∧Store.sub σ s⟩) (fun e τ' => @EndQ e τ' ⟨Ts42.F7.slots,fun r s=>r = .bool true∧Store.sub σ s⟩) (fun _ _ _=>False):=fun t X h=>z81 hn h h2 X fun s' hs=>EndQ.to _ _ rfl (Store.sub_refl _) ⟨rfl,hs⟩
 refine ⟨fun c1 => ?_,fun c1 => ?_⟩
 ·refine (xe 4 90 65001 (by omega)).Q ?_
  rintro r s3 ⟨q1,q2⟩
  simp only [↓vcPre,↓z8,↓reduceIte,vcPost,vcStd,Nat.reduceEqDiff,reduceCtorEq,Nat.reduceAdd,Nat.reduceLeDiff,Int.reduceLT,Int.reduceLE,↓u_setN]
  refine (xw hA q1 q2 (by rw [y1];simp) (Nat.le_trans (yo _ _) (by decide)) (by rw [y1];exact fun y hy=>by cases hy) (xu _ _ _) (by rw [y2];omega)).Q ?_
  rintro r s4 ⟨ov,hv,rfl,hA⟩
  have hA:SQ σ p (wS 1) s4:=hA.drop
  simp only [Ts42.t7_32]
  simp only [↓vcPre,↓z8,↓reduceIte,vcPost,vcStd,Nat.reduceEqDiff,reduceCtorEq,Nat.reduceAdd,Nat.reduceLeDiff,Int.reduceLT,Int.reduceLE,↓u_setN]
  refine ⟨fun c2 => ?_,fun c2 => ?_⟩
  ·refine (xe 5 0 65001 (by omega)).Q ?_
   rintro r s5 ⟨q1,q2⟩
   simp only [↓vcPre,↓z8,↓reduceIte,vcPost,vcStd,Nat.reduceEqDiff,reduceCtorEq,Nat.reduceAdd,Nat.reduceLeDiff,Int.reduceLT,Int.reduceLE,↓u_setN]
   refine (xw hA q1 q2 (by rw [y3];simp) (Nat.le_trans (yo _ _) (by decide)) (by rw [y3];exact fun y hy=>by cases hy) (xu _ _ _) (by rw [y4];omega)).Q ?_
   rintro r s6 ⟨ov,hv,rfl,hA⟩
   have hA:SQ σ p (wS 2) s6:=hA.drop
   simp only [↓vcPre,↓z8,↓reduceIte,vcPost,vcStd,Nat.reduceEqDiff,reduceCtorEq,Nat.reduceAdd,Nat.reduceLeDiff,Int.reduceLT,Int.reduceLE,↓u_setN]
   have:n=2:=by omega
   subst this
   exact fin _ _ hA
  ·have:n=1:=by omega
   subst this
   exact fin _ _ hA
 ·simp only [Ts42.t7_32]
  simp only [↓vcPre,↓z8,↓reduceIte,vcPost,vcStd,Nat.reduceEqDiff,reduceCtorEq,Nat.reduceAdd,Nat.reduceLeDiff,Int.reduceLT,Int.reduceLE,↓u_setN]
  have:n=0:=by omega
  subst this
  refine ⟨fun c2 => ?_,fun c2 => ?_⟩
  ·omega
  ·exact fin _ _ hA
end
end Go.Am
namespace Go.Am.Ts43
open Go.Proofs Go.Am.B
def t9_47:BC:=z [m 47 0,g 48 22 [.t 47,.c (.int .i64 1),.c (.int .i64 600)],m 7 48] [3,5,7] (.seq (z [j 8 1] [3,5,7,8] (.block 0 (.loop [3,5,7,8] (.seq (z [m 49 8,m 50 7,b 51 .leq 49 50] [3,5,7,8,51] (.cond (.t 51) .skip (.exit 0))) (.seq (.block 1 (z [m 55 3,g 56 34 [.t 55],m 54 56,e 57 0 54,e 58 1 54,m 9 57,m 10 58] [3,5,7,8,9,10] (z [m 60 5,g 61 34 [.t 60],m 59 61,e 62 0 59,e 63 1 59,m 11 62,m 12 63] [3,5,7,8,9,10,11,12] (z [m 64 10,u 65 .len 64,c 66 .gtr 65 0,m 67 66,⟨some 68,some (67,false),.pure (.mov),[.t 9]⟩,⟨some 69,some (67,false),.pure (.len),[.t 68]⟩,⟨some 70,some (67,false),.pure (.bin .gtr),[.t 69,.c (.int .i64 0)]⟩,⟨some 71,some (67,false),.pure (.mov),[.t 8]⟩,⟨some 72,some (67,false),.pure (.bin .eql),[.t 71,.c (.int .i64 240)]⟩,⟨some 73,some (67,false),.pure (.eqb true),[.t 70,.t 72]⟩,⟨some 74,none,.pick,[.t 67,.c (.bool true),.t 73]⟩,m 75 74,⟨some 76,some (75,false),.pure (.mov),[.t 3]⟩,⟨some 77,some (75,false),.loud (.call 25),[.t 76]⟩,⟨some 78,some (75,false),.pure (.bin .eql),[.t 77,.c (.int .i64 1)]⟩,⟨some 79,some (75,false),.pure (.mov),[.t 8]⟩,⟨some 80,some (75,false),.pure (.bin .geq),[.t 79,.c (.int .i64 240)]⟩,⟨some 81,some (75,false),.pure (.eqb true),[.t 78,.t 80]⟩,⟨some 82,none,.pick,[.t 75,.c (.bool true),.t 81]⟩,m 83 82,⟨some 84,some (83,false),.pure (.mov),[.t 11]⟩,⟨some 85,some (83,false),.pure (.len),[.t 84]⟩,⟨some 86,some (83,false),.pure (.mov),[.t 12]⟩,⟨some 87,some (83,false),.pure (.len),[.t 86]⟩,⟨some 88,some (83,false),.pure (.bin .add),[.t 85,.t 87]⟩,⟨some 89,some (83,false),.pure (.bin .gtr),[.t 88,.c (.int .i64 0)]⟩,⟨some 90,none,.pick,[.t 83,.c (.bool true),.t 89]⟩,m 91 90,⟨some 92,some (91,false),.pure (.mov),[.t 5]⟩,⟨some 93,some (91,false),.loud (.call 25),[.t 92]⟩,⟨some 94,some (91,false),.pure (.bin .neq),[.t 93,.c (.int .i64 4)]⟩,⟨some 95,none,.pick,[.t 91,.c (.bool true),.t 94]⟩] [3,5,7,8,95] (.cond (.t 95) (z [k 2 (.bool false)] [2] .ret) .skip))))) (.ops [m 52 8,c 53 .add 52 1,m 8 53] [3,5,7,8])))))) (z [g 96 27 [],m 2 96] [2] .ret))
def b9:BC:=z [k 2 (.bool false)] [0] (z [g 14 28 [.c (.int .u32 65000),.c (.int .u32 1),.c (.int .i64 90),.c (.int .u32 65001)],m 13 14,e 15 0 13,e 16 1 13,m 3 15,m 4 16] [0,3,4] (z [g 18 28 [.c (.int .u32 65000),.c (.int .u32 1),.c (.int .i64 0),.c (.int .u32 65001)],m 17 18,e 19 0 17,e 20 1 17,m 5 19,m 6 20] [0,3,4,5,6] (.seq (z [m 21 3,p 22 (.eqnil false true) [.t 21],m 23 22,⟨some 24,some (23,false),.pure (.mov),[.t 5]⟩,⟨some 25,some (23,false),.pure (.eqnil false true),[.t 24]⟩,⟨some 26,none,.pick,[.t 23,.c (.bool true),.t 25]⟩,m 27 26,⟨some 28,some (27,false),.pure (.mov),[.t 4]⟩,⟨some 29,some (27,false),.pure (.bin .neq),[.t 28,.c (.int .i64 0)]⟩,⟨some 30,none,.pick,[.t 27,.c (.bool true),.t 29]⟩,m 31 30,⟨some 32,some (31,false),.pure (.mov),[.t 6]⟩,⟨some 33,some (31,false),.pure (.bin .neq),[.t 32,.c (.int .i64 0)]⟩,⟨some 34,none,.pick,[.t 31,.c (.bool true),.t 33]⟩] [0,3,5,34] (.cond (.t 34) (z [k 2 (.bool false)] [2] .ret) .skip)) (z [m 35 3,g 36 29 [.t 35]] [0,3,5] (z [m 37 5,g 38 29 [.t 37]] [0,3,5] (z [m 39 5,p 40 (.build [(.int .i64 0),(.int .i64 0),(.int .i64 0),.nils,(.bool false),(.int .i64 0),.nils,(.int .u32 0),(.bool false),(.int .u32 0),(.bool false),(.int .u32 0),(.bool false),.nils,.nils,(.int .i64 0),(.int .i64 0),.nils,.nils,(.int .i64 0),(.int .u8 0)] [(0,1),(2,1)]) [.c (.int .i64 4),.c (.int .i64 90)],g 41 23 [.t 40,.c (.int .u32 65001)],g 42 24 [.t 39,.t 41]] [0,3,5] (z [m 43 5,p 44 (.build [(.int .i64 0),(.int .i64 0),(.int .i64 0),.nils,(.bool false),(.int .i64 0),.nils,(.int .u32 0),(.bool false),(.int .u32 0),(.bool false),(.int .u32 0),(.bool false),.nils,.nils,(.int .i64 0),(.int .i64 0),.nils,.nils,(.int .i64 0),(.int .u8 0)] [(0,1)]) [.c (.int .i64 5)],g 45 23 [.t 44,.c (.int .u32 65001)],g 46 24 [.t 43,.t 45]] [0,3,5] t9_47)))))))
def F9:Fn Tryz.prog 9:=Fn.mkX false b9 [.t 2] 97 Tryz.f9 _ Tryz.func9 (by decide) rfl Tryz.ntmps9 (by kernel_rfl) (by kernel_rfl)
end Go.Am.Ts43
namespace Go.Am
open Go.Proofs Go.Sort
def siS (i:Nat):Ses:=if i<240 then ⟨65000,1,90,65001,2,[],0,0,(i:Int),0⟩ else newS 65000 1 90 65001
def siO (i:Nat):List Int:=if i=240 then endO [] lateN else []
theorem z75:(endO [] lateN).length=21:=by decide+kernel
theorem siT (i:Nat):tickT (siS i)=(siS (i+1),siO (i+1),[]):=by
 by_cases h:i<240
 ·have e:siS i=⟨65000,1,90,65001,2,[],0,0,(i:Int),0⟩:=by unfold siS;rw [if_pos h]
  rw [e]
  unfold tickT
  rw [if_pos rfl]
  by_cases h2:i+1=240
  ·rw [if_pos (by simp only;omega)]
   have e2:siS (i+1)=newS 65000 1 90 65001:=by unfold siS;rw [if_neg (by omega)]
   have e3:siO (i+1)=endO [] lateN:=by unfold siO;rw [if_pos h2]
   rw [e2,e3]
   rfl
  ·rw [if_neg (by simp only;omega)]
   have e2:siS (i+1)=⟨65000,1,90,65001,2,[],0,0,((i+1:Nat):Int),0⟩:=by unfold siS;rw [if_pos (by omega)]
   have e3:siO (i+1)=[]:=by unfold siO;rw [if_neg h2]
   rw [e2,e3]
   rfl
 ·have e:siS i=newS 65000 1 90 65001:=by unfold siS;rw [if_neg h]
  have e2:siS (i+1)=newS 65000 1 90 65001:=by unfold siS;rw [if_neg (by omega)]
  have e3:siO (i+1)=[]:=by unfold siO;rw [if_neg (by omega)]
  rw [e,e2,e3]
  rfl
theorem siZ:(upT (newS 65000 1 90 65001)).1=siS 0:=rfl
theorem ziy:tickT (upW 0 65001)=(upW 0 65001,[],[]):=rfl
section
variable {σ τ s:Store} {pa pb:Nat} {nn rr:Env→Store→Prop} {xx:Nat→Env→Store→Prop}
set_option maxHeartbeats 1000000 in
theorem z7y (ha:SQ σ pa (siS 0) τ) (hb:SQ τ pb (upW 0 65001) s) {ticks:Int} (ht:I64 ticks) (X:List (Nat×AV)) (hr:∀ s',Store.sub σ s'→rr [(2,.bool true)] s') :
 bwp Tryz.prog Ts43.t9_47 ((0,.int .i64 ticks)::(3,.ptr pa 0)::(5,.ptr pb 0)::X) s nn rr xx:=by
 simp only [Ts43.t9_47]
 simp only [↓vcPre,↓z8,↓reduceIte,vcPost,vcStd,Nat.reduceEqDiff,reduceCtorEq,Nat.reduceAdd,Nat.reduceLeDiff,Int.reduceLT,Int.reduceLE,↓u_setN]
 refine (c22 ticks 1 600 ht (by omega) (by omega) (by omega)).Q ?_
 obtain ⟨n,hn,e⟩:∃ n:Nat,n≤600∧(1:Int)+ticks % (600 - 1+1)=(n:Int):=⟨(1+ticks % 600).toNat,by omega,by omega⟩
 rw [e]
 simp only [↓vcPre,↓z8,↓reduceIte,vcPost,vcStd,Nat.reduceEqDiff,reduceCtorEq,Nat.reduceAdd,Nat.reduceLeDiff,Int.reduceLT,Int.reduceLE,↓u_setN]
 refine LoopQ.inv (S:=Nat×Store) (fun q=>[(3,.ptr pa 0),(5,.ptr pb 0),(7,.int .i64 (n:Int)),(8,.int .i64 ((q.1+1:Nat):Int))]) (fun q=>q.2) (fun q=>q.1≤600∧∃ τ,SQ σ pa (siS q.1) τ∧SQ τ pb (upW 0 65001) q.2) (fun q=>601 - q.1) (0,s) rfl (Store.sub_refl _) ⟨by simp,τ,ha,hb⟩ ?_
 rintro ⟨i,t⟩ ⟨hi,τ1,ra,rb⟩
 simp only at hi ra rb
 simp only [↓vcPre,↓z8,↓reduceIte,vcPost,vcStd,Nat.reduceEqDiff,reduceCtorEq,Nat.reduceAdd,Nat.reduceLeDiff,Int.reduceLT,Int.reduceLE,↓u_setN]
 refine ⟨fun c1 => ?_,fun c1 => ?_⟩
 ·have ei:IntKind.i64.wrap (((i+1:Nat):Int)+1)=((i+1+1:Nat):Int):=by rw [zd (by unfold I64;omega)];omega
  obtain ⟨τ2,k1,k2,k3,k4,_⟩:=ST.cut ra rb.sf.sub
  have bIn:ST σ pb (upW 0 65001) [] [] .nils .nils τ2:=ST.into rb ra.sf.sub k1 k4
  have b1:0≤(siS i).silent∧(siS i).silent≤1000000000:=by unfold siS;split <;> (simp [newS];try omega)
  have b2:0≤(siS i).said∧(siS i).said≤1000000000:=by unfold siS;split <;> simp [newS]
  have b3:(siS i).time≤1000000000:=by unfold siS;split <;> simp [newS]
  refine (s34 k3 b1 b2 b3).Q ?_
  rintro r t2 ⟨ov,hv,rfl,hA⟩
  rw [siT] at hA
  simp only [↓vcPre,↓z8,↓reduceIte,vcPost,vcStd,Nat.reduceEqDiff,reduceCtorEq,Nat.reduceAdd,Nat.reduceLeDiff,Int.reduceLT,Int.reduceLE,↓u_setN]
  obtain ⟨τ3,m1,m2,m3,m4,_⟩:=ST.cut bIn hA.sub
  have aIn:=ST.into hA k1 m1 m4
  refine (s34 m3 (by simp [upW]) (by simp [upW]) (by simp [upW])).Q ?_
  rintro r t3 ⟨ov2,hv2,rfl,hB⟩
  rw [ziy] at hB
  obtain ⟨_,_,_,_,_,o1,o2,_⟩:=id aIn
  obtain ⟨_,_,_,_,_,o3,o4,_⟩:=id hB
  have l1:pv .len [ov]=some (.int .i64 ((siO (i+1)).length:Int)):=by rw [(Rd.own o1).2];simp
  have l2:pv .len [hv]=some (.int .i64 0):=by rw [(Rd.own o2).2];rfl
  have l3:pv .len [ov2]=some (.int .i64 0):=by rw [(Rd.own o3).2];rfl
  have l4:pv .len [hv2]=some (.int .i64 0):=by rw [(Rd.own o4).2];rfl
  have hsA:=s25 ((aIn.sn).grow hB.sub).sf
  have hsB:=s25 hB.sn.sf
  have e4:(upW 0 65001).st=4:=rfl
  rw [e4] at hsB
  have x1:((decide (0<((siO (i+1)).length:Int))) != decide (((i+1:Nat):Int)=240))=false:=by
   unfold siO
   split
   ·rw [z75];simp;omega
   ·simp;omega
  have x2:((decide ((siS (i+1)).st=1)) != decide (240≤((i+1:Nat):Int)))=false:=by
   unfold siS
   split
   ·simp;omega
   ·simp [newS];omega
  have w0:IntKind.i64.wrap ((0:Int)+0)=0:=by decide
  simp only [l1,l2,↓vcPre,↓z8,↓reduceIte,vcPost,vcStd,Nat.reduceEqDiff,reduceCtorEq,Nat.reduceAdd,Nat.reduceLeDiff,Int.reduceLT,Int.reduceLE,↓u_setN]
  rw [x1]
  simp only [↓vcPre,↓z8,↓reduceIte,vcPost,vcStd,Nat.reduceEqDiff,reduceCtorEq,Nat.reduceAdd,Nat.reduceLeDiff,Int.reduceLT,Int.reduceLE,↓u_setN]
  refine hsA.Q ?_
  rintro r t3 ⟨rfl,rfl⟩
  simp only [↓vcPre,↓z8,↓reduceIte,vcPost,vcStd,Nat.reduceEqDiff,reduceCtorEq,Nat.reduceAdd,Nat.reduceLeDiff,Int.reduceLT,Int.reduceLE,↓u_setN]
  rw [x2]
  simp only [l3,l4,↓vcPre,↓z8,↓reduceIte,vcPost,vcStd,Nat.reduceEqDiff,reduceCtorEq,Nat.reduceAdd,Nat.reduceLeDiff,Int.reduceLT,Int.reduceLE,↓u_setN]
  rw [w0]
  refine ⟨fun _ => ?_,fun c=>absurd c (by omega)⟩
  refine hsB.Q ?_
  rintro r t3 ⟨rfl,rfl⟩
  simp only [ei,↓vcPre,↓z8,↓reduceIte,vcPost,vcStd,Nat.reduceEqDiff,reduceCtorEq,Nat.reduceAdd,Nat.reduceLeDiff,Int.reduceLT,Int.reduceLE,↓u_setN]
  exact NextQ.to (i+1,t3) rfl (Store.sub_refl _) (by simp only;omega) ⟨by simp only;omega,τ3,aIn.sn,hB.sn⟩
 ·refine c27.Q ?_
  rintro r s ⟨rfl,hs⟩
  simp only [↓vcPre,↓z8,↓reduceIte,vcPost,vcStd,Nat.reduceEqDiff,reduceCtorEq,Nat.reduceAdd,Nat.reduceLeDiff,Int.reduceLT,Int.reduceLE,↓u_setN]
  exact hr _ (Store.sub_trans ra.sf.sub (Store.sub_trans rb.sf.sub hs))
theorem zg9:(upT (newS 65000 1 0 65001)).1.b=[]∧(upT (newS 65000 1 0 65001)).1.peer=65001∧(upM 0 65001).b=[]∧(upM 0 65001).peer=65001∧upE 0 65001=upW 0 65001:=by decide+kernel
set_option maxHeartbeats 1000000 in
theorem s9 (ticks:Int) (ht:I64 ticks):ACalls Tryz.prog 9 [.int .i64 ticks] σ (fun r s=>r = .bool true∧Store.sub σ s):=by
 refine ze Ts43.F9 (by simp [Ts43.F9,Fn.mkX]) ?_
 simp only [Ts43.F9,Fn.mkX,Ts43.b9]
 obtain ⟨y1,y2,y3,y4,y5⟩:=zg9
 simp only [↓vcPre,↓z8,↓reduceIte,vcPost,vcStd,Nat.reduceEqDiff,reduceCtorEq,Nat.reduceAdd,Nat.reduceLeDiff,Int.reduceLT,Int.reduceLE,↓u_setN]
 refine (s28 σ 65000 1 90 65001).Q ?_
 rintro r s1 (⟨hb,_⟩ | ⟨hk1,pa,rfl,ha⟩)
 ·exact absurd hb (by decide)
 simp only [↓vcPre,↓z8,↓reduceIte,vcPost,vcStd,Nat.reduceEqDiff,reduceCtorEq,Nat.reduceAdd,Nat.reduceLeDiff,Int.reduceLT,Int.reduceLE,↓u_setN]
 refine (s28 s1 65000 1 0 65001).Q ?_
 rintro r s2 (⟨hb,_⟩ | ⟨hk2,pb,rfl,hb⟩)
 ·exact absurd hb (by decide)
 simp only [↓vcPre,↓z8,↓reduceIte,vcPost,vcStd,Nat.reduceEqDiff,reduceCtorEq,Nat.reduceAdd,Nat.reduceLeDiff,Int.reduceLT,Int.reduceLE,↓u_setN]
 obtain ⟨τ2,k1,k2,k3,k4,_⟩:=ST.cut ha hb.sf.sub
 have bIn:ST σ pb (newS 65000 1 0 65001) [] [] .nils .nils τ2:=ST.into hb ha.sf.sub k1 k4
 refine (s29 k3 hk1).Q ?_
 rintro r s3 ⟨ov,hv,rfl,hA⟩
 simp only [↓vcPre,↓z8,↓reduceIte,vcPost,vcStd,Nat.reduceEqDiff,reduceCtorEq,Nat.reduceAdd,Nat.reduceLeDiff,Int.reduceLT,Int.reduceLE,↓u_setN]
 obtain ⟨τ3,m1,m2,m3,m4,_⟩:=ST.cut bIn hA.sub
 have aIn:=(ST.into hA k1 m1 m4).sn
 rw [siZ] at aIn
 refine (s29 m3 hk2).Q ?_
 rintro r s4 ⟨ov2,hv2,rfl,hB⟩
 have hB:=hB.drop
 simp only [↓vcPre,↓z8,↓reduceIte,vcPost,vcStd,Nat.reduceEqDiff,reduceCtorEq,Nat.reduceAdd,Nat.reduceLeDiff,Int.reduceLT,Int.reduceLE,↓u_setN]
 refine (xe 4 90 65001 (by omega)).Q ?_
 rintro r s3 ⟨q1,q2⟩
 simp only [↓vcPre,↓z8,↓reduceIte,vcPost,vcStd,Nat.reduceEqDiff,reduceCtorEq,Nat.reduceAdd,Nat.reduceLeDiff,Int.reduceLT,Int.reduceLE,↓u_setN]
 refine (xw hB q1 q2 (by rw [y1];simp) (Nat.le_trans (yo _ _) (by decide)) (by rw [y1];exact fun y hy=>by cases hy) (xu _ _ _) (by rw [y2];omega)).Q ?_
 rintro r s5 ⟨ov,hv,rfl,hB⟩
 have hB:SQ τ3 pb (upM 0 65001) s5:=hB.drop
 simp only [↓vcPre,↓z8,↓reduceIte,vcPost,vcStd,Nat.reduceEqDiff,reduceCtorEq,Nat.reduceAdd,Nat.reduceLeDiff,Int.reduceLT,Int.reduceLE,↓u_setN]
 refine (xe 5 0 65001 (by omega)).Q ?_
 rintro r s3 ⟨q1,q2⟩
 simp only [↓vcPre,↓z8,↓reduceIte,vcPost,vcStd,Nat.reduceEqDiff,reduceCtorEq,Nat.reduceAdd,Nat.reduceLeDiff,Int.reduceLT,Int.reduceLE,↓u_setN]
 refine (xw hB q1 q2 (by rw [y3];simp) (Nat.le_trans (yo _ _) (by decide)) (by rw [y3];exact fun y hy=>by cases hy) (xu _ _ _) (by rw [y4];omega)).Q ?_
 rintro r s6 ⟨ov,hv,rfl,hB⟩
 have hB:SQ τ3 pb (upE 0 65001) s6:=hB.drop
 rw [y5] at hB
 simp only [↓vcPre,↓z8,↓reduceIte,vcPost,vcStd,Nat.reduceEqDiff,reduceCtorEq,Nat.reduceAdd,Nat.reduceLeDiff,Int.reduceLT,Int.reduceLE,↓u_setN]
 exact z7y aIn hB ht _ fun s' hs=>EndQ.to _ _ rfl (Store.sub_refl _) ⟨rfl,hs⟩
end
end Go.Am
namespace Go.Am
open Go.Proofs Go.Sort
deriving instance DecidableEq for Nt3
deriving instance DecidableEq for Spl
def ckS (t a b:Int):Ses:=⟨65000,1,3*t,65001,4,[],7,3*t,a,b⟩
def kaL:List Int:=bytesF (ask0 5 0) 65001
theorem z73:splitF kaL=⟨4,[],19,nt0⟩:=by decide+kernel
theorem z9e:kaL.drop 19=[]:=by decide+kernel
theorem z7a:splitF []=noneS nt0:=by decide+kernel
theorem z4s {t a b:Int} (h:a+1<3*t) (ht:1≤t):tickT (ckS t a b)=if t≤b+1 then (ckS t (a+1) 0,(joinF 4 []).1,[]) else (ckS t (a+1) (b+1),[],[]):=by
 unfold tickT
 have e1:(ckS t a b).st=4:=rfl
 have e2:(ckS t a b).time=3*t:=rfl
 have e3:(ckS t a b).silent=a:=rfl
 have e4:(ckS t a b).said=b:=rfl
 have e5:3*t / 3=t:=by omega
 rw [e1,e2,e3,e4,if_neg (by omega),if_pos ⟨by omega,by omega⟩,if_neg (by omega),e5]
 split
 ·rfl
 ·rfl
theorem zda {t a b:Int} (h:3*t≤a+1) (ht:1≤t):tickT (ckS t a b)=(newS 65000 1 (3*t) 65001,endO [] lateN,[.closed]):=by
 unfold tickT
 have e1:(ckS t a b).st=4:=rfl
 have e2:(ckS t a b).time=3*t:=rfl
 have e3:(ckS t a b).silent=a:=rfl
 rw [e1,e2,e3,if_neg (by omega),if_pos ⟨by omega,by omega⟩,if_pos (by omega)]
 rfl
theorem zap (t a b:Int):feedT (ckS t a b,[],[]) kaL=(ckS t 0 b,[],[]):=by
 unfold feedT
 rw [if_neg (show ¬ (ckS t a b).st=1 by simp [ckS])]
 have s1:stepT ({ ckS t a b with b:=(ckS t a b).b++kaL },[],[])=some (ckS t 0 b,[],[]):=by
  unfold stepT
  have e:(ckS t a b).b++kaL=kaL:=rfl
  simp only [e,z73]
  rw [if_neg (by decide),if_neg (by decide)]
  rw [show Int.toNat 19=19 from rfl,z9e]
  unfold takeT
  rw [if_neg (by decide),if_neg (by rintro ⟨h,_⟩;simp [ckS] at h),if_neg (by rintro ⟨h,_⟩;simp [ckS] at h),if_pos ⟨rfl,rfl⟩]
  rfl
 rw [z03 (by simp [ckS]) s1]
 refine z2o (by simp [ckS]) ?_
 unfold stepT
 have e:(ckS t 0 b).b=[]:=rfl
 simp only [e,z7a]
 rw [if_neg (by decide),if_pos (by decide)]
theorem z74:(endO [] lateN).length=21∧(endO [] lateN).getD 18 0=3∧(endO [] lateN).getD 19 0=4:=by decide+kernel
theorem zba:(joinF 4 []).1.length=19:=by decide+kernel
theorem zf6 {t:Int} (h:1≤t∧t≤30):upW (3*t) 65001=ckS t 0 0:=by
 unfold upW ckS
 split
 ·rfl
 ·have:t=30:=by omega
  subst this;rfl
end Go.Am
namespace Go.Am.Ts44
open Go.Proofs Go.Am.B
def t8_76:BC:=z [m 76 6,g 77 34 [.t 76],m 75 77,e 78 0 75,e 79 1 75,m 15 78,m 16 79] [6,11,15,16] (z [m 80 11,c 81 .geq 80 2,m 82 81,⟨some 83,some (82,true),.pure (.mov),[.t 15]⟩,⟨some 84,some (82,true),.pure (.len),[.t 83]⟩,⟨some 85,some (82,true),.pure (.bin .eql),[.t 84,.c (.int .i64 21)]⟩,⟨some 86,none,.pick,[.t 82,.t 85,.c (.bool false)]⟩,m 87 86,⟨some 88,some (87,true),.pure (.mov),[.t 15]⟩,⟨some 89,some (87,true),.pure (.idx 1),[.t 88,.c (.int .i64 18)]⟩,⟨some 90,some (87,true),.load (.ld 1 false),[.t 89]⟩,⟨some 91,some (87,true),.pure (.bin .eql),[.t 90,.c (.int .u8 3)]⟩,⟨some 92,none,.pick,[.t 87,.t 91,.c (.bool false)]⟩,m 93 92,⟨some 94,some (93,true),.pure (.mov),[.t 15]⟩,⟨some 95,some (93,true),.pure (.idx 1),[.t 94,.c (.int .i64 19)]⟩,⟨some 96,some (93,true),.load (.ld 1 false),[.t 95]⟩,⟨some 97,some (93,true),.pure (.bin .eql),[.t 96,.c (.int .u8 4)]⟩,⟨some 98,none,.pick,[.t 93,.t 97,.c (.bool false)]⟩,m 99 98,⟨some 100,some (99,true),.pure (.mov),[.t 16]⟩,⟨some 101,some (99,true),.pure (.len),[.t 100]⟩,⟨some 102,some (99,true),.pure (.bin .eql),[.t 101,.c (.int .i64 1)]⟩,⟨some 103,none,.pick,[.t 99,.t 102,.c (.bool false)]⟩,m 104 103,⟨some 105,some (104,true),.pure (.mov),[.t 16]⟩,⟨some 106,some (104,true),.pure (.idx 13),[.t 105,.c (.int .i64 0)]⟩,⟨some 107,some (104,true),.pure (.fld 0),[.t 106]⟩,⟨some 108,some (104,true),.load (.ld 1 false),[.t 107]⟩,⟨some 109,some (104,true),.pure (.bin .eql),[.t 108,.c (.int .i64 2)]⟩,⟨some 110,none,.pick,[.t 104,.t 109,.c (.bool false)]⟩,m 111 110,⟨some 112,some (111,true),.pure (.mov),[.t 6]⟩,⟨some 113,some (111,true),.loud (.call 25),[.t 112]⟩,⟨some 114,some (111,true),.pure (.bin .eql),[.t 113,.c (.int .i64 1)]⟩,⟨some 115,none,.pick,[.t 111,.t 114,.c (.bool false)]⟩,m 116 115,⟨some 117,some (116,true),.loud (.call 27),[]⟩,⟨some 118,none,.pick,[.t 116,.t 117,.c (.bool false)]⟩,m 4 118] [4] .ret)
def t8_11:BC:=z [j 11 0] [5,6,11] (.seq (z [j 12 1] [5,6,11,12] (.block 4 (.loop [5,6,11,12] (.seq (z [m 56 12,m 57 5,p 58 (.bin .mul) [.c (.int .i64 3),.t 57],b 59 .lss 56 58] [5,6,11,12,59] (.cond (.t 59) .skip (.exit 4))) (.seq (.block 5 (z [m 63 6,g 64 34 [.t 63],m 62 64,e 65 0 62,e 66 1 62,m 13 65,m 14 66] [5,6,11,12,13,14] (.seq (z [m 67 14,u 68 .len 67,c 69 .gtr 68 0] [5,6,11,12,13,69] (.cond (.t 69) (z [k 4 (.bool false)] [4] .ret) .skip)) (z [m 70 13,u 71 .len 70,c 72 .gtr 71 0] [5,6,11,12,72] (.cond (.t 72) (.ops [m 73 11,c 74 .add 73 1,m 11 74] [5,6,11,12]) .skip))))) (.ops [m 60 12,c 61 .add 60 1,m 12 61] [5,6,11,12])))))) t8_76)
def t8_25:BC:=z [m 25 1,m 26 5,p 27 (.bin .mul) [.c (.int .i64 3),.t 26],c 28 .sub 27 1,g 29 22 [.t 25,.c (.int .i64 0),.t 28],m 1 29] [1,5,6] (.seq (z [j 7 0] [1,5,6,7] (.block 0 (.loop [1,5,6,7] (.seq (z [m 30 7,c 31 .lss 30 2] [1,5,6,7,31] (.cond (.t 31) .skip (.exit 0))) (.seq (.block 1 (.seq (z [j 8 0] [1,5,6,7,8] (.block 2 (.loop [1,5,6,7,8] (.seq (z [m 34 8,m 35 1,b 36 .lss 34 35] [1,5,6,7,8,36] (.cond (.t 36) .skip (.exit 2))) (.seq (.block 3 (z [m 40 6,g 41 34 [.t 40],m 39 41,e 42 0 39,e 43 1 39,m 9 42,m 10 43] [1,5,6,7,8,10] (z [m 44 10,u 45 .len 44,c 46 .gtr 45 0,m 47 46,⟨some 48,some (47,false),.pure (.mov),[.t 6]⟩,⟨some 49,some (47,false),.loud (.call 25),[.t 48]⟩,⟨some 50,some (47,false),.pure (.bin .neq),[.t 49,.c (.int .i64 4)]⟩,⟨some 51,none,.pick,[.t 47,.c (.bool true),.t 50]⟩] [1,5,6,7,8,51] (.cond (.t 51) (z [k 4 (.bool false)] [4] .ret) .skip)))) (.ops [m 37 8,c 38 .add 37 1,m 8 38] [1,5,6,7,8])))))) (.ops [m 52 6,p 53 (.build [(.int .i64 0),(.int .i64 0),(.int .i64 0),.nils,(.bool false),(.int .i64 0),.nils,(.int .u32 0),(.bool false),(.int .u32 0),(.bool false),(.int .u32 0),(.bool false),.nils,.nils,(.int .i64 0),(.int .i64 0),.nils,.nils,(.int .i64 0),(.int .u8 0)] [(0,1)]) [.c (.int .i64 5)],g 54 23 [.t 53,.c (.int .u32 65001)],g 55 24 [.t 52,.t 54]] [1,5,6,7]))) (.ops [m 32 7,c 33 .add 32 1,m 7 33] [1,5,6,7])))))) t8_11)
def b8:BC:=z [k 4 (.bool false)] [0,1] (z [m 17 0,g 18 22 [.t 17,.c (.int .i64 0),.c (.int .i64 29)],p 19 (.bin .add) [.c (.int .i64 1),.t 18],m 5 19] [1,5] (z [m 20 5,p 21 (.bin .mul) [.c (.int .i64 3),.t 20],g 22 21 [.t 21,.c (.int .u32 65001)],m 6 22] [1,5,6] (.seq (z [m 23 6,p 24 (.eqnil false true) [.t 23]] [1,5,6,24] (.cond (.t 24) (z [k 4 (.bool false)] [4] .ret) .skip)) t8_25)))
def F8:Fn Tryz.prog 8:=Fn.mkX false b8 [.t 4] 119 Tryz.f8 _ Tryz.func8 (by decide) rfl Tryz.ntmps8 (by kernel_rfl) (by kernel_rfl)
end Go.Am.Ts44
namespace Go.Am
open Go.Proofs Go.Sort
section
variable {σ s:Store} {p:Nat} {nn rr:Env→Store→Prop} {xx:Nat→Env→Store→Prop}
set_option maxHeartbeats 1000000 in
theorem z7s {t a b said:Int} (h:SQ σ p (ckS t a b) s) (ht:1≤t∧t≤30) (ha:0≤a∧a≤100) (hb:0≤b∧b≤100) (he:3*t≤a+1) (hs:2≤said) (X:List (Nat×AV)) (hr:∀ s',Store.sub σ s'→rr [(4,.bool true)] s') :
 bwp Tryz.prog Ts44.t8_76 ((5,.int .i64 t)::(6,.ptr p 0)::(11,.int .i64 said)::X) s nn rr xx:=by
 simp only [Ts44.t8_76]
 simp only [↓vcPre,↓z8,↓reduceIte,vcPost,vcStd,Nat.reduceEqDiff,reduceCtorEq,Nat.reduceAdd,Nat.reduceLeDiff,Int.reduceLT,Int.reduceLE,↓u_setN]
 refine (s34 h (by simp [ckS];omega) (by simp [ckS];omega) (by simp [ckS];omega)).Q ?_
 rintro r s2 ⟨ov,hv,rfl,hA⟩
 rw [zda he ht.1] at hA
 obtain ⟨_,_,_,_,_,o1,o2,_⟩:=id hA
 obtain ⟨b1,b2,b3⟩:=z74
 have lo:pv .len [ov]=some (.int .i64 21):=by rw [(Rd.own o1).2];simp [b1]
 obtain ⟨q0,a0,r0⟩:=Rd.byte (Rd.own o1) (k:=18) (show 18<(endO [] lateN).length by omega)
 obtain ⟨q1,a1,r1⟩:=Rd.byte (Rd.own o1) (k:=19) (show 19<(endO [] lateN).length by omega)
 have a0:pv (.idx 1) [ov,.int .i64 18]=some q0:=a0
 have a1:pv (.idx 1) [ov,.int .i64 19]=some q1:=a1
 have r0:=r0 _ (Store.sub_refl _)
 have r1:=r1 _ (Store.sub_refl _)
 rw [b2] at r0
 rw [b3] at r1
 have hsA:=s25 hA.sn.sf
 have e1:(newS 65000 1 (3*t) 65001).st=1:=rfl
 simp only [e1] at hsA
 rcases o2 with ⟨hnil,_⟩ | ⟨g,rfl,hg,hh⟩
 ·cases hnil
 simp only [↓vcPre,↓z8,↓reduceIte,vcPost,vcStd,Nat.reduceEqDiff,reduceCtorEq,Nat.reduceAdd,Nat.reduceLeDiff,Int.reduceLT,Int.reduceLE,↓u_setN]
 refine ⟨fun _ => ?_,fun c=>absurd hs c⟩
 simp only [lo,a0,r0,a1,r1,↓vcPre,↓z8,↓reduceIte,vcPost,vcStd,Nat.reduceEqDiff,reduceCtorEq,Nat.reduceAdd,Nat.reduceLeDiff,Int.reduceLT,Int.reduceLE,↓u_setN]
 have ha:arrO 13 (s2 g)=some [Ev.closed.c]:=by rw [hh];rfl
 refine ⟨fun _=>⟨by decide,?_⟩,fun c=>absurd rfl c⟩
 rw [ha,y7]
 refine ⟨by decide,by decide,?_⟩
 show wit (some (AV.int .i64 2)) _
 rw [y7]
 simp only [↓vcPre,↓z8,↓reduceIte,vcPost,vcStd,Nat.reduceEqDiff,reduceCtorEq,Nat.reduceAdd,Nat.reduceLeDiff,Int.reduceLT,Int.reduceLE,↓u_setN]
 refine hsA.Q ?_
 rintro r s2 ⟨rfl,rfl⟩
 simp only [↓vcPre,↓z8,↓reduceIte,vcPost,vcStd,Nat.reduceEqDiff,reduceCtorEq,Nat.reduceAdd,Nat.reduceLeDiff,Int.reduceLT,Int.reduceLE,↓u_setN]
 refine c27.Q ?_
 rintro r s ⟨rfl,hs⟩
 simp only [↓vcPre,↓z8,↓reduceIte,vcPost,vcStd,Nat.reduceEqDiff,reduceCtorEq,Nat.reduceAdd,Nat.reduceLeDiff,Int.reduceLT,Int.reduceLE,↓u_setN]
 exact hr _ (Store.sub_trans hA.sub hs)
set_option maxHeartbeats 1000000 in
theorem z7q {t b:Int} (h:SQ σ p (ckS t 0 b) s) (ht:1≤t∧t≤30) (hb:0≤b∧b<t) (X:List (Nat×AV)) (hr:∀ s',Store.sub σ s'→rr [(4,.bool true)] s') :
 bwp Tryz.prog Ts44.t8_11 ((5,.int .i64 t)::(6,.ptr p 0)::X) s nn rr xx:=by
 simp only [Ts44.t8_11]
 simp only [↓vcPre,↓z8,↓reduceIte,vcPost,vcStd,Nat.reduceEqDiff,reduceCtorEq,Nat.reduceAdd,Nat.reduceLeDiff,Int.reduceLT,Int.reduceLE,↓u_setN]
 refine LoopQ.inv (S:=Nat×Int×Int×Store) (fun q=>[(5,.int .i64 t),(6,.ptr p 0),(11,.int .i64 q.2.1),(12,.int .i64 ((q.1+1:Nat):Int))]) (fun q=>q.2.2.2) (fun q=>(q.1:Int)+1≤3*t∧(0≤q.2.1∧q.2.1≤q.1)∧(0≤q.2.2.1∧q.2.2.1<t)∧q.2.1*t+q.2.2.1=b+q.1∧SQ σ p (ckS t q.1 q.2.2.1) q.2.2.2) (fun q=>100 - q.1) (0,0,b,s) rfl (Store.sub_refl _) ⟨by simp only;omega,by simp only;omega,by simp only;omega,by simp,h⟩ ?_
 rintro ⟨i,said,c,u⟩ ⟨h1,h2,h3,h4,h5⟩
 simp only at h1 h2 h3 h4 h5
 have w3:IntKind.i64.wrap (3*t)=3*t:=zd (by unfold I64;omega)
 simp only [w3,↓vcPre,↓z8,↓reduceIte,vcPost,vcStd,Nat.reduceEqDiff,reduceCtorEq,Nat.reduceAdd,Nat.reduceLeDiff,Int.reduceLT,Int.reduceLE,↓u_setN]
 refine ⟨fun c1 => ?_,fun c1 => ?_⟩
 ·have ei:IntKind.i64.wrap (((i+1:Nat):Int)+1)=((i+1+1:Nat):Int):=by rw [zd (by unfold I64;omega)];omega
  have es:IntKind.i64.wrap (said+1)=said+1:=zd (by unfold I64;omega)
  refine (s34 h5 (by simp [ckS];omega) (by simp [ckS];omega) (by simp [ckS];omega)).Q ?_
  rintro r s2 ⟨ov,hv,rfl,hA⟩
  rw [z4s (by omega) ht.1] at hA
  simp only [↓vcPre,↓z8,↓reduceIte,vcPost,vcStd,Nat.reduceEqDiff,reduceCtorEq,Nat.reduceAdd,Nat.reduceLeDiff,Int.reduceLT,Int.reduceLE,↓u_setN]
  by_cases c2:t≤c+1
  ·rw [if_pos c2] at hA
   obtain ⟨_,_,_,_,_,o1,o2,_⟩:=id hA
   have lo:pv .len [ov]=some (.int .i64 19):=by rw [(Rd.own o1).2];simp [zba]
   have lh:pv .len [hv]=some (.int .i64 0):=by rw [(Rd.own o2).2];rfl
   simp only [lo,lh,ei,es,↓vcPre,↓z8,↓reduceIte,vcPost,vcStd,Nat.reduceEqDiff,reduceCtorEq,Nat.reduceAdd,Nat.reduceLeDiff,Int.reduceLT,Int.reduceLE,↓u_setN]
   refine NextQ.to (i+1,said+1,0,s2) rfl (Store.sub_refl _) (by simp only;omega) ⟨by simp only;omega,by simp only;omega,by simp only;omega,?_,?_⟩
   ·simp only
    rw [Int.add_mul]
    omega
   ·have:=hA.sn
    simpa using this
  ·rw [if_neg c2] at hA
   obtain ⟨_,_,_,_,_,o1,o2,_⟩:=id hA
   have lo:pv .len [ov]=some (.int .i64 0):=by rw [(Rd.own o1).2];rfl
   have lh:pv .len [hv]=some (.int .i64 0):=by rw [(Rd.own o2).2];rfl
   simp only [lo,lh,ei,↓vcPre,↓z8,↓reduceIte,vcPost,vcStd,Nat.reduceEqDiff,reduceCtorEq,Nat.reduceAdd,Nat.reduceLeDiff,Int.reduceLT,Int.reduceLE,↓u_setN]
   refine NextQ.to (i+1,said,c+1,s2) rfl (Store.sub_refl _) (by simp only;omega) ⟨by simp only;omega,by simp only;omega,by simp only;omega,?_,?_⟩
   ·simp only;omega
   ·have:=hA.sn
    simpa using this
 ·refine z7s h5 ht (by omega) (by omega) (by omega) ?_ _ hr
  by_cases g:said=0
  ·subst g;omega
  ·by_cases g:said=1
   ·subst g;omega
   ·omega
set_option maxHeartbeats 1000000 in
theorem z7r {t:Int} (h:SQ σ p (ckS t 0 0) s) (ht:1≤t∧t≤30) {quiet:Int} (hq:I64 quiet) (X:List (Nat×AV)) (hr:∀ s',Store.sub σ s'→rr [(4,.bool true)] s') :
 bwp Tryz.prog Ts44.t8_25 ((1,.int .i64 quiet)::(5,.int .i64 t)::(6,.ptr p 0)::X) s nn rr xx:=by
 simp only [Ts44.t8_25]
 have w3:IntKind.i64.wrap (3*t)=3*t:=zd (by unfold I64;omega)
 have w4:IntKind.i64.wrap (3*t - 1)=3*t - 1:=zd (by unfold I64;omega)
 simp only [w3,w4,↓vcPre,↓z8,↓reduceIte,vcPost,vcStd,Nat.reduceEqDiff,reduceCtorEq,Nat.reduceAdd,Nat.reduceLeDiff,Int.reduceLT,Int.reduceLE,↓u_setN]
 refine (c22 quiet 0 (3*t - 1) hq (by omega) (by omega) (by omega)).Q ?_
 have b1:=Int.emod_nonneg quiet (b:=3*t - 1 - 0+1) (by omega)
 have b2:=Int.emod_lt_of_pos quiet (b:=3*t - 1 - 0+1) (by omega)
 obtain ⟨n,hn,e⟩:∃ n:Nat,(n:Int)<3*t∧(0:Int)+quiet % (3*t - 1 - 0+1)=(n:Int):=⟨(quiet % (3*t - 1 - 0+1)).toNat,by omega,by omega⟩
 rw [e]
 simp only [↓vcPre,↓z8,↓reduceIte,vcPost,vcStd,Nat.reduceEqDiff,reduceCtorEq,Nat.reduceAdd,Nat.reduceLeDiff,Int.reduceLT,Int.reduceLE,↓u_setN]
 refine LoopQ.inv (S:=Nat×Int×Store) (fun q=>[(1,.int .i64 (n:Int)),(5,.int .i64 t),(6,.ptr p 0),(7,.int .i64 (q.1:Int))]) (fun q=>q.2.2) (fun q=>q.1≤2∧(0≤q.2.1∧q.2.1<t)∧SQ σ p (ckS t 0 q.2.1) q.2.2) (fun q=>3 - q.1) (0,0,s) rfl (Store.sub_refl _) ⟨by simp,by simp only;omega,h⟩ ?_
 rintro ⟨k,b,u⟩ ⟨hk,hb,hu⟩
 simp only at hk hb hu
 simp only [↓vcPre,↓z8,↓reduceIte,vcPost,vcStd,Nat.reduceEqDiff,reduceCtorEq,Nat.reduceAdd,Nat.reduceLeDiff,Int.reduceLT,Int.reduceLE,↓u_setN]
 refine ⟨fun c1 => ?_,fun c1 => ?_⟩
 ·have ek:IntKind.i64.wrap ((k:Int)+1)=((k+1:Nat):Int):=by rw [zd (by unfold I64;omega)];omega
  refine LoopQ.inv (S:=Nat×Int×Store) (fun q=>[(1,.int .i64 (n:Int)),(5,.int .i64 t),(6,.ptr p 0),(7,.int .i64 (k:Int)),(8,.int .i64 (q.1:Int))]) (fun q=>q.2.2) (fun q=>q.1≤n∧(0≤q.2.1∧q.2.1<t)∧SQ σ p (ckS t q.1 q.2.1) q.2.2) (fun q=>100 - q.1) (0,b,u) rfl (Store.sub_refl _) ⟨by simp,hb,hu⟩ ?_
  rintro ⟨i,c,u2⟩ ⟨hi,hc,hv⟩
  simp only at hi hc hv
  simp only [↓vcPre,↓z8,↓reduceIte,vcPost,vcStd,Nat.reduceEqDiff,reduceCtorEq,Nat.reduceAdd,Nat.reduceLeDiff,Int.reduceLT,Int.reduceLE,↓u_setN]
  refine ⟨fun c3 => ?_,fun c3 => ?_⟩
  ·have ei:IntKind.i64.wrap ((i:Int)+1)=((i+1:Nat):Int):=by rw [zd (by unfold I64;omega)];omega
   refine (s34 hv (by simp [ckS];omega) (by simp [ckS];omega) (by simp [ckS];omega)).Q ?_
   rintro r s2 ⟨ov,hv2,rfl,hA⟩
   rw [z4s (by omega) ht.1] at hA
   simp only [↓vcPre,↓z8,↓reduceIte,vcPost,vcStd,Nat.reduceEqDiff,reduceCtorEq,Nat.reduceAdd,Nat.reduceLeDiff,Int.reduceLT,Int.reduceLE,↓u_setN]
   by_cases c2:t≤c+1
   ·rw [if_pos c2] at hA
    obtain ⟨_,_,_,_,_,o1,o2,_⟩:=id hA
    have lh:pv .len [hv2]=some (.int .i64 0):=by rw [(Rd.own o2).2];rfl
    have hst:=s25 hA.sn.sf
    have e4:(ckS t ((i:Int)+1) 0).st=4:=rfl
    simp only [e4] at hst
    simp only [lh,↓vcPre,↓z8,↓reduceIte,vcPost,vcStd,Nat.reduceEqDiff,reduceCtorEq,Nat.reduceAdd,Nat.reduceLeDiff,Int.reduceLT,Int.reduceLE,↓u_setN]
    refine hst.Q ?_
    rintro r s2 ⟨rfl,rfl⟩
    simp only [ei,↓vcPre,↓z8,↓reduceIte,vcPost,vcStd,Nat.reduceEqDiff,reduceCtorEq,Nat.reduceAdd,Nat.reduceLeDiff,Int.reduceLT,Int.reduceLE,↓u_setN]
    refine NextQ.to (i+1,0,s2) rfl (Store.sub_refl _) (by simp only;omega) ⟨by simp only;omega,by simp only;omega,?_⟩
    have:=hA.sn
    simpa using this
   ·rw [if_neg c2] at hA
    obtain ⟨_,_,_,_,_,o1,o2,_⟩:=id hA
    have lh:pv .len [hv2]=some (.int .i64 0):=by rw [(Rd.own o2).2];rfl
    have hst:=s25 hA.sn.sf
    have e4:(ckS t ((i:Int)+1) (c+1)).st=4:=rfl
    simp only [e4] at hst
    simp only [lh,↓vcPre,↓z8,↓reduceIte,vcPost,vcStd,Nat.reduceEqDiff,reduceCtorEq,Nat.reduceAdd,Nat.reduceLeDiff,Int.reduceLT,Int.reduceLE,↓u_setN]
    refine hst.Q ?_
    rintro r s2 ⟨rfl,rfl⟩
    simp only [ei,↓vcPre,↓z8,↓reduceIte,vcPost,vcStd,Nat.reduceEqDiff,reduceCtorEq,Nat.reduceAdd,Nat.reduceLeDiff,Int.reduceLT,Int.reduceLE,↓u_setN]
    refine NextQ.to (i+1,c+1,s2) rfl (Store.sub_refl _) (by simp only;omega) ⟨by simp only;omega,by simp only;omega,?_⟩
    have:=hA.sn
    simpa using this
  ·refine (xe 5 0 65001 (by omega)).Q ?_
   rintro r s3 ⟨q1,q2⟩
   simp only [↓vcPre,↓z8,↓reduceIte,vcPost,vcStd,Nat.reduceEqDiff,reduceCtorEq,Nat.reduceAdd,Nat.reduceLeDiff,Int.reduceLT,Int.reduceLE,↓u_setN]
   refine (xw hv q1 q2 (by simp [ckS]) (Nat.le_trans (yo _ _) (by decide)) (by simp [ckS];exact fun y hy=>by cases hy) (xu _ _ _) (by simp [ckS])).Q ?_
   rintro r s4 ⟨ov,hv2,rfl,hA⟩
   have hA:=hA.drop
   have e:=zap t (i:Int) c
   unfold kaL at e
   rw [e] at hA
   simp only [ek,↓vcPre,↓z8,↓reduceIte,vcPost,vcStd,Nat.reduceEqDiff,reduceCtorEq,Nat.reduceAdd,Nat.reduceLeDiff,Int.reduceLT,Int.reduceLE,↓u_setN]
   exact NextQ.to (k+1,c,s4) rfl (Store.sub_refl _) (by simp only;omega) ⟨by simp only;omega,hc,hA⟩
 ·exact z7q hu ht hb [] hr
set_option maxHeartbeats 1000000 in
theorem s8 (third quiet:Int) (h1:I64 third) (h2:I64 quiet):ACalls Tryz.prog 8 [.int .i64 third,.int .i64 quiet] σ (fun r s=>r = .bool true∧Store.sub σ s):=by
 refine ze Ts44.F8 (by simp [Ts44.F8,Fn.mkX]) ?_
 simp only [Ts44.F8,Fn.mkX,Ts44.b8]
 simp only [↓vcPre,↓z8,↓reduceIte,vcPost,vcStd,Nat.reduceEqDiff,reduceCtorEq,Nat.reduceAdd,Nat.reduceLeDiff,Int.reduceLT,Int.reduceLE,↓u_setN]
 refine (c22 third 0 29 h1 (by omega) (by omega) (by omega)).Q ?_
 obtain ⟨n,hn,e⟩:∃ n:Nat,n<30∧(0:Int)+third % (29 - 0+1)=(n:Int):=⟨(third % 30).toNat,by omega,by omega⟩
 rw [e]
 have w1:IntKind.i64.wrap (1+(n:Int))=1+n:=zd (by unfold I64;omega)
 have w3:IntKind.i64.wrap (3*(1+(n:Int)))=3*(1+n):=zd (by unfold I64;omega)
 have hu:=zhb ⟨n,hn⟩
 simp only at hu
 simp only [w1,w3,↓vcPre,↓z8,↓reduceIte,vcPost,vcStd,Nat.reduceEqDiff,reduceCtorEq,Nat.reduceAdd,Nat.reduceLeDiff,Int.reduceLT,Int.reduceLE,↓u_setN]
 refine (s21 (by omega) hu).Q ?_
 rintro r s1 ⟨p,rfl,hA⟩
 rw [zf6 (by omega)] at hA
 simp only [↓vcPre,↓z8,↓reduceIte,vcPost,vcStd,Nat.reduceEqDiff,reduceCtorEq,Nat.reduceAdd,Nat.reduceLeDiff,Int.reduceLT,Int.reduceLE,↓u_setN]
 exact z7r hA (by omega) h2 _ fun s' hs=>EndQ.to _ _ rfl (Store.sub_refl _) ⟨rfl,hs⟩
end
end Go.Am
namespace Go.Am
open Go.Proofs Go.Sort
theorem qc {P:Go.Program} {f:Nat} {args:List AV} {v:AV} (h:∀ σ,ACalls P f args σ (fun r s=>r=v∧Store.sub σ s)):Pur P f args v:=fun σ =>
 ACalls.forget ((h σ).mono fun a s hs=>⟨σ,hs.2,rfl,hs.1⟩)
theorem zg1 (a:Int) (h1:I64 a) (b:Int) (h2:I64 b):Pur Tryz.prog 7 [.int .i64 a,.int .i64 b] (.bool true):=qc fun _=>s7 a b h1 h2
theorem zfj (a:Int) (h1:I64 a):Pur Tryz.prog 9 [.int .i64 a] (.bool true):=qc fun _=>s9 a h1
theorem zfi (a:Int) (h1:I64 a) (b:Int) (h2:I64 b):Pur Tryz.prog 8 [.int .i64 a,.int .i64 b] (.bool true):=qc fun _=>s8 a b h1 h2
end Go.Am
namespace Go.Am
open Go.Proofs
theorem wfI {n : Int} (h : (Lit.int .i64 n).wf = true) : I64 n := by
  simp only [Lit.wf, Bool.and_eq_true, decide_eq_true_eq] at h
  exact h
end Go.Am
