/- A part of the proof: a logic for calls over plain values, and the functions that the law reaches, each walked once. -/
import Derived.Test.YtholebikgpnmlaaPB15
set_option linter.unusedVariables false
set_option linter.unusedSimpArgs false
set_option linter.unusedSectionVars false
namespace Go.Am
open Go.Proofs Go.Sort
set_option maxHeartbeats 1000000 in
theorem z0i {σ:Store} (rs:List Rule) (hk:∀ r ∈ rs,r.ok) {lv:AV} (hr:Rd 12 σ (rs.map Rule.c) lv):ACalls Try.prog 23 [lv] σ (fun r s=>s=σ∧r = .sl 12 ((rulesK rs).map Rule.c)):=by
 refine zo Ts17.F23 (by simp [Ts17.F23,Fn.mkX]) ?_
 simp only [Ts17.F23,Fn.mkX,Ts17.b23]
 have hlen:=hr.2
 rw [List.length_map] at hlen
 simp only [↓vcPre,↓z0,↓reduceIte,vcPost,vcStd,Nat.reduceEqDiff,reduceCtorEq,Nat.reduceAdd,Nat.reduceLeDiff,Int.reduceLT,Int.reduceLE,↓u_setN]
 refine LoopQ.inv (S:=Nat×AV×Store) (fun q=>[(0,lv),(3,q.2.1),(4,.int .i64 (q.1:Int))]) (fun q=>q.2.2)
  (fun q=>q.1≤rs.length∧q.1≤3∧Store.sub σ q.2.2∧Own 12 σ (((rs.take q.1).mapIdx fun i r=>ruleK r (decide (i=0))).map Rule.c) q.2.1 q.2.2)
  (fun q=>4 - q.1) (0,.nils,σ) rfl (Store.sub_refl _) ⟨by simp only;omega,by simp only;omega,Store.sub_refl _,Own.nil⟩ ?_
 rintro ⟨k,v,s⟩ ⟨hk1,hk2,i1,i2⟩
 simp only at hk1 hk2 i1 i2
 simp only [hlen,↓vcPre,↓z0,↓reduceIte,vcPost,vcStd,Nat.reduceEqDiff,reduceCtorEq,Nat.reduceAdd,Nat.reduceLeDiff,Int.reduceLT,Int.reduceLE,↓u_setN]
 have fin:∀ w,w=(rs.take 3).mapIdx (fun i r=>ruleK r (decide (i=0)))→Own 12 σ (w.map Rule.c) v s → @EndQ [(2,v)] s ⟨Ts17.F23.slots,fun r s=>s=σ∧r = .sl 12 ((rulesK rs).map Rule.c)⟩:=fun w hw ho =>
  EndQ.own rfl ho i1 ⟨rfl,by rw [hw];rfl⟩
 have e12:∀ y:Rule,y.c.length=12:=fun _=>rfl
 refine ⟨fun c1=>⟨fun c2 => ?_,fun c2=>fin _ (by rw [show k=3 by omega]) i2⟩,fun c1=>fin _ (by rw [List.take_of_length_le (by omega),List.take_of_length_le (by omega)]) i2⟩
 have c1':k<rs.length:=by omega
 obtain ⟨p,hp,hrd⟩:=hr.at (k:=k) (by simpa using c1')
 have hrd':=hrd s i1 12
 have eg:(rs.map Rule.c)[k]'(by simpa using c1')=rs[k].c:=List.getElem_map ..
 rw [eg] at hrd'
 have tk:takeN 0 12 rs[k].c=some rs[k].c:=rfl
 rw [tk] at hrd'
 have ro:=hk rs[k] (List.getElem_mem c1')
 have hmi:=z2k rs (fun i r=>ruleK r (decide (i=0))) k c1'
 generalize rs[k]=r at hrd' ro hmi
 have t12:∀ y:Rule,List.take 12 y.c=y.c:=fun _=>rfl
 have e12:∀ y:Rule,y.c.length=12:=fun _=>rfl
 have z12:∀ y:Rule,splice 0 y.c [AV.int .u32 0,.int .i64 0,.int .i64 0,.int .i64 0,.int .u32 0,.bool false,.bool false,.int .u32 0,.bool false,.int .u32 0,.int .i64 0,.int .u32 0]=some y.c:=fun _=>rfl
 simp only [hp,hrd',e12,t12,↓vcPre,↓z0,↓reduceIte,vcPost,vcStd,Nat.reduceEqDiff,reduceCtorEq,Nat.reduceAdd,Nat.reduceLeDiff,Int.reduceLT,Int.reduceLE,↓u_setN]
 refine AllocQ.i0 fun p5 hp5 => ?_
 have g0:List.take 1 r.c=[.int .u32 r.ad]:=rfl
 have g1:List.take 1 (List.drop 1 r.c)=[.int .i64 r.ln]:=rfl
 have g5:List.take 1 (List.drop 5 r.c)=[.bool r.rj]:=rfl
 have g6:List.take 1 (List.drop 6 r.c)=[.bool r.sp]:=rfl
 have g8:List.take 1 (List.drop 8 r.c)=[.bool r.sm]:=rfl
 have g10:List.take 1 (List.drop 10 r.c)=[.int .i64 r.pp]:=rfl
 have g11:List.take 1 (List.drop 11 r.c)=[.int .u32 r.ac]:=rfl
 simp only [e12,t12,z12,g0,g1,g5,g6,g8,g10,g11,↓vcPre,↓z0,↓reduceIte,vcPost,vcStd,Nat.reduceEqDiff,reduceCtorEq,Nat.reduceAdd,Nat.reduceLeDiff,Int.reduceLT,Int.reduceLE,↓u_setN]
 have hσ5:σ p5=none:=zk i1 hp5
 have s5:Store.sub s ((s.set p5 (.box [AV.int .u32 0,.int .i64 0,.int .i64 0,.int .i64 0,.int .u32 0,.bool false,.bool false,.int .u32 0,.bool false,.int .u32 0,.int .i64 0,.int .u32 0])).set p5 (.box r.c)):=z8 (Store.sub_set s p5 _ hp5) hp5
 have T5:((s.set p5 (.box [AV.int .u32 0,.int .i64 0,.int .i64 0,.int .i64 0,.int .u32 0,.bool false,.bool false,.int .u32 0,.bool false,.int .u32 0,.int .i64 0,.int .u32 0])).set p5 (.box r.c)) p5=some (.box r.c):=Store.set_same _ _ _
 generalize (s.set p5 (.box [AV.int .u32 0,.int .i64 0,.int .i64 0,.int .i64 0,.int .u32 0,.bool false,.bool false,.int .u32 0,.bool false,.int .u32 0,.int .i64 0,.int .u32 0])).set p5 (.box r.c)=T at s5 T5 ⊢
 have hw:=c48 r.pp 0 2 ro.2 (by omega) (by omega) (by omega)
 rw [show (0:Int)+r.pp % (2 - 0+1)=r.pp % 3 by omega] at hw
 refine ⟨by decide,(c24 r.ad r.ln ro.1).Q ?_⟩
 have hdk:decide ((k:Int)=0)=decide (k=0):=by simp
 have z12':∀ y:Rule,splice 0 y.c [AV.int .u32 0,.int .i64 0,.int .i64 0,.int .i64 0,.int .u32 0,.bool false,.bool false,.int .u32 0,.bool false,.int .u32 0,.int .i64 0,.int .u32 0]=some y.c:=fun _=>rfl
 cases hrj:r.rj
 all_goals
  simp only [↓vcPre,↓z0,↓reduceIte,vcPost,vcStd,Nat.reduceEqDiff,reduceCtorEq,Nat.reduceAdd,Nat.reduceLeDiff,Int.reduceLT,Int.reduceLE,↓u_setN]
  refine hw.Q ?_
  simp only [↓vcPre,↓z0,↓reduceIte,vcPost,vcStd,Nat.reduceEqDiff,reduceCtorEq,Nat.reduceAdd,Nat.reduceLeDiff,Int.reduceLT,Int.reduceLE,↓u_setN]
  refine AllocQ.i0 fun p6 hp6 => ?_
  simp only [↓vcPre,↓z0,↓reduceIte,vcPost,vcStd,Nat.reduceEqDiff,reduceCtorEq,Nat.reduceAdd,Nat.reduceLeDiff,Int.reduceLT,Int.reduceLE,↓u_setN]
  have h56:¬ p5=p6:=fun e=>by subst e;rw [T5] at hp6;cases hp6
  have hσ6:σ p6=none:=zk (Store.sub_trans i1 s5) hp6
  have ek:IntKind.i64.wrap ((k:Int)+1)=((k+1:Nat):Int):=by rw [zg (by unfold I64;omega)];omega
  have hS:Store.sub σ T:=Store.sub_trans i1 s5
  have hO:=i2.mono s5
  refine z6s (r:=r) (x:=ruleA r (decide (k=0))) (σ:=σ) (L:=((rs.take k).mapIdx fun i r=>ruleK r (decide (i=0))).map Rule.c) h56 ?_ ?_ ?_ ?_ hσ6 ?_ [] ?_
  ·rw [Store.set_ne _ _ h56,Store.set_ne _ _ h56];exact T5
  ·rw [Store.set_same];simp [ruleA,Rule.c,hrj]
  ·exact (hO.mono (Store.sub_set T p6 _ hp6)).setId (Store.set_same _ _ _) (fun M e=>by cases e)
  ·exact z8 (z8 hS hσ6) hσ6
  ·rw [List.length_map,List.length_mapIdx,List.length_take];omega
  ·intro v' T' h1 h2
   simp only [ek,↓vcPre,↓z0,↓reduceIte,vcPost,vcStd,Nat.reduceEqDiff,reduceCtorEq,Nat.reduceAdd,Nat.reduceLeDiff,Int.reduceLT,Int.reduceLE,↓u_setN]
   refine NextQ.to (k+1,v',T') rfl (Store.sub_refl _) (by simp only;omega) ⟨by simp only;omega,by simp only;omega,h1,?_⟩
   simp only
   rw [hmi,List.map_append]
   exact h2
theorem z07 (a:At):(shortA a).ok:=by
 refine ⟨by simp [shortA];omega,fun s hs => ?_,by simp [shortA];omega⟩
 simp only [shortA,List.mem_map] at hs
 obtain ⟨s,_,rfl⟩:=hs
 simp [Seg.ok,shortS];omega
theorem xr (a:At) (x:Int):(tameA a x).ok∧(tameA a x).path.length≤900000∧(tameA a x).cms.length≤900000:=by
 refine ⟨z6v a x,by simp [tameA],?_⟩
 have h:=w7 (a.cms.take 2)
 rw [List.length_take] at h
 simp only [tameA]
 omega
theorem xp (rs:List Rule):(rulesK rs).length≤3:=by
 unfold rulesK;rw [List.length_mapIdx,List.length_take];omega
set_option maxHeartbeats 1000000 in
theorem z3s (rs:List Rule) (hrs:∀ r ∈ rs,r.ok) (x n size:Int) (hs:I64 size) (a:At) (ho:I64 a.org):Pur Try.prog 8 [.sl 12 (rs.map Rule.c),.int .u32 x,.int .u32 n,.int .i64 size,.agg a.c] (.bool true):=by
 refine zp Tst.F8 (by simp [Tst.F8,Fn.mkX]) fun σ => ?_
 simp only [Tst.F8,Fn.mkX,Tst.b8,yl]
 have e9:∀ y:At,y.c.length=9:=fun _=>rfl
 have t9:∀ y:At,List.take 9 y.c=y.c:=fun _=>rfl
 have hz:∀ y:At,splice 0 y.c zCells=some y.c:=fun _=>rfl
 have sA:∀ y w:At,splice 0 y.c w.c=some y.c:=fun _ _=>rfl
 have hT:=xr (shortA a) 65001
 have cut:List.drop (Int.toNat 0) (List.take ((some (18:Int)).getD ↑rs.length).toNat (rs.map Rule.c))=(rs.take 18).map Rule.c:=by rw [List.map_take];rfl
 simp only [↓vcPre,↓z0,↓reduceIte,vcPost,vcStd,Nat.reduceEqDiff,reduceCtorEq,Nat.reduceAdd,Nat.reduceLeDiff,Int.reduceLT,Int.reduceLE,↓u_setN]
 refine AllocQ.i0 fun p9 h9 => ?_
 have T9:=Store.set_same σ p9 (.box a.c)
 have sT:=Store.sub_set σ p9 (.box a.c) h9
 generalize σ.set p9 (.box a.c)=T at T9 sT ⊢
 simp only [↓vcPre,↓z0,↓reduceIte,vcPost,vcStd,Nat.reduceEqDiff,reduceCtorEq,Nat.reduceAdd,Nat.reduceLeDiff,Int.reduceLT,Int.reduceLE,↓u_setN]
 refine ⟨fun c1 => ?_,fun c1 => ?_⟩
 ·refine ⟨⟨by simp,by simp;omega⟩,?_⟩
  simp only [T9,e9,t9,↓vcPre,↓z0,↓reduceIte,vcPost,vcStd,Nat.reduceEqDiff,reduceCtorEq,Nat.reduceAdd,Nat.reduceLeDiff,Int.reduceLT,Int.reduceLE,↓u_setN]
  refine (c36 a).Q ?_
  simp only [T9,sA,e9,↓vcPre,↓z0,↓reduceIte,vcPost,vcStd,Nat.reduceEqDiff,reduceCtorEq,Nat.reduceAdd,Nat.reduceLeDiff,Int.reduceLT,Int.reduceLE,↓u_setN]
  have U9:=Store.set_same T p9 (.box (shortA a).c)
  have sU:Store.sub σ (T.set p9 (.box (shortA a).c)):=z8 sT h9
  generalize T.set p9 (.box (shortA a).c)=U at U9 sU ⊢
  simp only [U9,e9,t9,↓vcPre,↓z0,↓reduceIte,vcPost,vcStd,Nat.reduceEqDiff,reduceCtorEq,Nat.reduceAdd,Nat.reduceLeDiff,Int.reduceLT,Int.reduceLE,↓u_setN]
  refine (c25 (shortA a) ho 65001).Q ?_
  simp only [↓vcPre,↓z0,↓reduceIte,vcPost,vcStd,Nat.reduceEqDiff,reduceCtorEq,Nat.reduceAdd,Nat.reduceLeDiff,Int.reduceLT,Int.reduceLE,↓u_setN]
  refine AllocQ.i0 fun p11 h11 => ?_
  have n9:¬ p9=p11:=fun e=>by subst e;rw [U9] at h11;cases h11
  simp only [hz,e9,↓vcPre,↓z0,↓reduceIte,vcPost,vcStd,Nat.reduceEqDiff,reduceCtorEq,Nat.reduceAdd,Nat.reduceLeDiff,Int.reduceLT,Int.reduceLE,↓u_setN]
  have sV:Store.sub U ((U.set p11 (.box zCells)).set p11 (.box (tameA (shortA a) 65001).c)):=z8 (Store.sub_set _ _ _ h11) h11
  have V11:((U.set p11 (.box zCells)).set p11 (.box (tameA (shortA a) 65001).c)) p11=some (.box (tameA (shortA a) 65001).c):=Store.set_same _ _ _
  generalize (U.set p11 (.box zCells)).set p11 (.box (tameA (shortA a) 65001).c)=V at sV V11 ⊢
  have V9:=sV _ _ U9
  simp only [V9,V11,e9,t9,cut,↓vcPre,↓z0,↓reduceIte,vcPost,vcStd,Nat.reduceEqDiff,reduceCtorEq,Nat.reduceAdd,Nat.reduceLeDiff,Int.reduceLT,Int.reduceLE,↓u_setN]
  refine (c31 n size hs).q' ?_
  simp only [V9,V11,e9,t9,cut,↓vcPre,↓z0,↓reduceIte,vcPost,vcStd,Nat.reduceEqDiff,reduceCtorEq,Nat.reduceAdd,Nat.reduceLeDiff,Int.reduceLT,Int.reduceLE,↓u_setN]
  refine (s34 (rs.take 18) (ofF n (size % 33)) x (shortA a) (z07 a) (by simp [shortA];omega) (by simp [shortA];omega) (by first | omega | (simp;omega)) Rd.sl).Q ?_
  rintro v V ⟨rfl,rfl⟩
  refine ⟨Store.sub_refl _,?_⟩
  simp only [V9,V11,e9,t9,cut,↓vcPre,↓z0,↓reduceIte,vcPost,vcStd,Nat.reduceEqDiff,reduceCtorEq,Nat.reduceAdd,Nat.reduceLeDiff,Int.reduceLT,Int.reduceLE,↓u_setN]
  refine (z0i (rs.take 18) (fun r hr=>hrs r (List.mem_of_mem_take hr)) Rd.sl).Q ?_
  rintro v V ⟨rfl,rfl⟩
  refine ⟨Store.sub_refl _,?_⟩
  simp only [V9,V11,e9,t9,cut,↓vcPre,↓z0,↓reduceIte,vcPost,vcStd,Nat.reduceEqDiff,reduceCtorEq,Nat.reduceAdd,Nat.reduceLeDiff,Int.reduceLT,Int.reduceLE,↓u_setN]
  refine (c24 n size hs).q' ?_
  simp only [V9,V11,e9,t9,cut,↓vcPre,↓z0,↓reduceIte,vcPost,vcStd,Nat.reduceEqDiff,reduceCtorEq,Nat.reduceAdd,Nat.reduceLeDiff,Int.reduceLT,Int.reduceLE,↓u_setN]
  refine (s34 _ (prefixF n size) x _ hT.1 hT.2.1 hT.2.2 (by have:=xp (rs.take 18);omega) Rd.sl).Q ?_
  rintro v V ⟨rfl,rfl⟩
  refine ⟨Store.sub_refl _,?_⟩
  simp only [V9,V11,e9,t9,cut,↓vcPre,↓z0,↓reduceIte,vcPost,vcStd,Nat.reduceEqDiff,reduceCtorEq,Nat.reduceAdd,Nat.reduceLeDiff,Int.reduceLT,Int.reduceLE,↓u_setN]
  refine (z0i (rs.take 18) (fun r hr=>hrs r (List.mem_of_mem_take hr)) Rd.sl).Q ?_
  rintro v V ⟨rfl,rfl⟩
  refine ⟨Store.sub_refl _,?_⟩
  simp only [V9,V11,e9,t9,cut,↓vcPre,↓z0,↓reduceIte,vcPost,vcStd,Nat.reduceEqDiff,reduceCtorEq,Nat.reduceAdd,Nat.reduceLeDiff,Int.reduceLT,Int.reduceLE,↓u_setN]
  refine (s34 _ (n,size) x _ hT.1 hT.2.1 hT.2.2 (by have:=xp (rs.take 18);omega) Rd.sl).Q ?_
  rintro v V ⟨rfl,rfl⟩
  refine ⟨Store.sub_refl _,?_⟩
  simp only [V9,V11,e9,t9,cut,↓vcPre,↓z0,↓reduceIte,vcPost,vcStd,Nat.reduceEqDiff,reduceCtorEq,Nat.reduceAdd,Nat.reduceLeDiff,Int.reduceLT,Int.reduceLE,↓u_setN]
  refine c28.q' ?_
  simp only [V9,V11,e9,t9,cut,↓vcPre,↓z0,↓reduceIte,vcPost,vcStd,Nat.reduceEqDiff,reduceCtorEq,Nat.reduceAdd,Nat.reduceLeDiff,Int.reduceLT,Int.reduceLE,↓u_setN]
  try exact Store.sub_trans sU sV
 ·simp only [T9,e9,t9,↓vcPre,↓z0,↓reduceIte,vcPost,vcStd,Nat.reduceEqDiff,reduceCtorEq,Nat.reduceAdd,Nat.reduceLeDiff,Int.reduceLT,Int.reduceLE,↓u_setN]
  refine (c36 a).Q ?_
  simp only [T9,sA,e9,↓vcPre,↓z0,↓reduceIte,vcPost,vcStd,Nat.reduceEqDiff,reduceCtorEq,Nat.reduceAdd,Nat.reduceLeDiff,Int.reduceLT,Int.reduceLE,↓u_setN]
  have U9:=Store.set_same T p9 (.box (shortA a).c)
  have sU:Store.sub σ (T.set p9 (.box (shortA a).c)):=z8 sT h9
  generalize T.set p9 (.box (shortA a).c)=U at U9 sU ⊢
  simp only [U9,e9,t9,↓vcPre,↓z0,↓reduceIte,vcPost,vcStd,Nat.reduceEqDiff,reduceCtorEq,Nat.reduceAdd,Nat.reduceLeDiff,Int.reduceLT,Int.reduceLE,↓u_setN]
  refine (c25 (shortA a) ho 65001).Q ?_
  simp only [↓vcPre,↓z0,↓reduceIte,vcPost,vcStd,Nat.reduceEqDiff,reduceCtorEq,Nat.reduceAdd,Nat.reduceLeDiff,Int.reduceLT,Int.reduceLE,↓u_setN]
  refine AllocQ.i0 fun p11 h11 => ?_
  have n9:¬ p9=p11:=fun e=>by subst e;rw [U9] at h11;cases h11
  simp only [hz,e9,↓vcPre,↓z0,↓reduceIte,vcPost,vcStd,Nat.reduceEqDiff,reduceCtorEq,Nat.reduceAdd,Nat.reduceLeDiff,Int.reduceLT,Int.reduceLE,↓u_setN]
  have sV:Store.sub U ((U.set p11 (.box zCells)).set p11 (.box (tameA (shortA a) 65001).c)):=z8 (Store.sub_set _ _ _ h11) h11
  have V11:((U.set p11 (.box zCells)).set p11 (.box (tameA (shortA a) 65001).c)) p11=some (.box (tameA (shortA a) 65001).c):=Store.set_same _ _ _
  generalize (U.set p11 (.box zCells)).set p11 (.box (tameA (shortA a) 65001).c)=V at sV V11 ⊢
  have V9:=sV _ _ U9
  simp only [V9,V11,e9,t9,cut,↓vcPre,↓z0,↓reduceIte,vcPost,vcStd,Nat.reduceEqDiff,reduceCtorEq,Nat.reduceAdd,Nat.reduceLeDiff,Int.reduceLT,Int.reduceLE,↓u_setN]
  refine (c31 n size hs).q' ?_
  simp only [V9,V11,e9,t9,cut,↓vcPre,↓z0,↓reduceIte,vcPost,vcStd,Nat.reduceEqDiff,reduceCtorEq,Nat.reduceAdd,Nat.reduceLeDiff,Int.reduceLT,Int.reduceLE,↓u_setN]
  refine (s34 rs (ofF n (size % 33)) x (shortA a) (z07 a) (by simp [shortA];omega) (by simp [shortA];omega) (by first | omega | (simp;omega)) Rd.sl).Q ?_
  rintro v V ⟨rfl,rfl⟩
  refine ⟨Store.sub_refl _,?_⟩
  simp only [V9,V11,e9,t9,cut,↓vcPre,↓z0,↓reduceIte,vcPost,vcStd,Nat.reduceEqDiff,reduceCtorEq,Nat.reduceAdd,Nat.reduceLeDiff,Int.reduceLT,Int.reduceLE,↓u_setN]
  refine (z0i rs (fun r hr=>hrs r hr) Rd.sl).Q ?_
  rintro v V ⟨rfl,rfl⟩
  refine ⟨Store.sub_refl _,?_⟩
  simp only [V9,V11,e9,t9,cut,↓vcPre,↓z0,↓reduceIte,vcPost,vcStd,Nat.reduceEqDiff,reduceCtorEq,Nat.reduceAdd,Nat.reduceLeDiff,Int.reduceLT,Int.reduceLE,↓u_setN]
  refine (c24 n size hs).q' ?_
  simp only [V9,V11,e9,t9,cut,↓vcPre,↓z0,↓reduceIte,vcPost,vcStd,Nat.reduceEqDiff,reduceCtorEq,Nat.reduceAdd,Nat.reduceLeDiff,Int.reduceLT,Int.reduceLE,↓u_setN]
  refine (s34 _ (prefixF n size) x _ hT.1 hT.2.1 hT.2.2 (by have:=xp rs;omega) Rd.sl).Q ?_
  rintro v V ⟨rfl,rfl⟩
  refine ⟨Store.sub_refl _,?_⟩
  simp only [V9,V11,e9,t9,cut,↓vcPre,↓z0,↓reduceIte,vcPost,vcStd,Nat.reduceEqDiff,reduceCtorEq,Nat.reduceAdd,Nat.reduceLeDiff,Int.reduceLT,Int.reduceLE,↓u_setN]
  refine (z0i rs (fun r hr=>hrs r hr) Rd.sl).Q ?_
  rintro v V ⟨rfl,rfl⟩
  refine ⟨Store.sub_refl _,?_⟩
  simp only [V9,V11,e9,t9,cut,↓vcPre,↓z0,↓reduceIte,vcPost,vcStd,Nat.reduceEqDiff,reduceCtorEq,Nat.reduceAdd,Nat.reduceLeDiff,Int.reduceLT,Int.reduceLE,↓u_setN]
  refine (s34 _ (n,size) x _ hT.1 hT.2.1 hT.2.2 (by have:=xp rs;omega) Rd.sl).Q ?_
  rintro v V ⟨rfl,rfl⟩
  refine ⟨Store.sub_refl _,?_⟩
  simp only [V9,V11,e9,t9,cut,↓vcPre,↓z0,↓reduceIte,vcPost,vcStd,Nat.reduceEqDiff,reduceCtorEq,Nat.reduceAdd,Nat.reduceLeDiff,Int.reduceLT,Int.reduceLE,↓u_setN]
  refine c28.q' ?_
  simp only [V9,V11,e9,t9,cut,↓vcPre,↓z0,↓reduceIte,vcPost,vcStd,Nat.reduceEqDiff,reduceCtorEq,Nat.reduceAdd,Nat.reduceLeDiff,Int.reduceLT,Int.reduceLE,↓u_setN]
  try exact Store.sub_trans sU sV
end Go.Am
namespace Go.Am
theorem z3t {a:Int} (h:0≤a):goodN (nextF a)∧0≤nextF a∧nextF a<4294967296:=by
 rw [z6f h]
 have h1:=Int.emod_nonneg a (b:=6) (by omega)
 have h2:=Int.emod_lt_of_pos a (b:=6) (by omega)
 have e:(3221225984+a % 6) / 16777216=192:=by omega
 refine ⟨?_,by omega,by omega⟩
 unfold goodN
 rw [e];omega
end Go.Am
namespace Go.Am
open Go.Proofs Go.Sort
theorem qb {α:Type} (p:α→Bool) (l:List α):(l.filter p).find? p=l.find? p:=by
 induction l with
 | nil=>rfl
 | cons a r ih =>
   by_cases h:p a=true
   ·rw [List.filter_cons_of_pos h,List.find?_cons,List.find?_cons,h]
   ·rw [List.filter_cons_of_neg h,List.find?_cons,ih]
    simp [h]
theorem z4l {α:Type} {p:α→Bool} {l r:List α} {a:α} (h:l.filter p=a::r):l.find? p=some a∧p a=true:=by
 have hp:p a=true:=by
  have:a ∈ l.filter p:=by rw [h];simp
  exact (List.mem_filter.1 this).2
 refine ⟨?_,hp⟩
 rw [←qb,h,List.find?_cons,hp]
theorem Rd.osx {esz g n:Nat} {τ:Store} {L:List (List AV)} (h:τ g=some (.arr esz L)) (hn:n≤L.length):Rd esz τ (L.take n) (.os g esz 0 n) :=
 ⟨fun t ht=>by rw [vi (ht _ _ h) (by omega),List.drop_zero],by simp [pv,pLen,hn]⟩
theorem z85 (x:Int) (n:Nat) (hn:n≤100) (ls:List Int) (hl:ls.length≤100):∃ ls',preA x n [⟨2,ls⟩]=[⟨2,ls'⟩]∧ls'.length=ls.length+n:=by
 induction n with
 | zero=>exact ⟨ls,rfl,rfl⟩
 | succ n ih =>
   obtain ⟨l1,h1,h2⟩:=ih (by omega)
   refine ⟨x::l1,?_,by simp;omega⟩
   simp only [preA,h1,preA1]
   rw [if_pos (by simp;omega)]
theorem v7 (r:Rule) (x:Int) (t:At):(doneN r x t).org=t.org∧(doneN r x t).nxt=t.nxt∧(doneN r x t).atm=t.atm∧(doneN r x t).path=preA x (preN r.pp) t.path ∧
 (doneN r x t).hp=(r.sp || t.hp)∧(doneN r x t).prf=(if r.sp then r.pf else if t.hp then t.prf else 0)∧(doneN r x t).hm=(r.sm || t.hm)∧(doneN r x t).med=(if r.sm then r.md else if t.hm then t.med else 0) ∧
 (doneN r x t).cms=(if r.ac≠0∧(putL (canonC t.cms) r.ac).length≤32 then putL (canonC t.cms) r.ac else canonC t.cms):=by
 rw [z0s]
 have hc:(pathA r x (medA r (prfA r (canonA t)))).cms=canonC t.cms:=by unfold pathA medA prfA canonA;cases r.sm <;> cases r.sp <;> rfl
 have key:∀ b:At,(rcommA r b).org=b.org∧(rcommA r b).nxt=b.nxt∧(rcommA r b).atm=b.atm∧(rcommA r b).path=b.path∧(rcommA r b).hp=b.hp∧(rcommA r b).prf=b.prf∧(rcommA r b).hm=b.hm∧(rcommA r b).med=b.med ∧
  (rcommA r b).cms=(if r.ac≠0∧(putL b.cms r.ac).length≤32 then putL b.cms r.ac else b.cms):=fun b=>by
  unfold rcommA;split <;> exact ⟨rfl,rfl,rfl,rfl,rfl,rfl,rfl,rfl,rfl⟩
 obtain ⟨k1,k2,k3,k4,k5,k6,k7,k8,k9⟩:=key (pathA r x (medA r (prfA r (canonA t))))
 unfold rdoneA
 rw [k1,k2,k3,k4,k5,k6,k7,k8,k9,hc]
 unfold pathA medA prfA canonA
 cases r.sm <;> cases r.sp <;> simp
theorem z1w (r:Rule) (z:Bool):0≤(ruleK r z).pp∧(ruleK r z).pp≤2:=by
 have h:(ruleK r z).pp=r.pp % 3:=by
  unfold ruleK ruleE ruleD ruleC ruleB ruleA
  split <;> split <;> split <;> split <;> rfl
 rw [h];omega
theorem z50 {rs:List Rule} {m:Rule} (h:m ∈ rulesK rs):0≤m.pp∧m.pp≤2:=by
 unfold rulesK at h
 rw [List.mem_mapIdx] at h
 obtain ⟨i,hi,rfl⟩:=h
 exact z1w _ _
theorem z57 (a:At) (x:Int):∃ ls,(tameA a x).path=[⟨2,ls⟩]∧1≤ls.length∧ls.length≤3:=⟨_,rfl,by simp,by simp;omega⟩
theorem z3k {m:Rule} {x:Int} {a:At} {y:Int} (hm:0≤m.pp∧m.pp≤2) (ha:0≤a.nxt):atRight (doneN m x (tameA a y))∧(countF (doneN m x (tameA a y)).path:Int)=countF (tameA a y).path+m.pp∧countF (tameA a y).path≤3:=by
 obtain ⟨d1,d2,d3,d4,d5,d6,d7,d8,d9⟩:=v7 m x (tameA a y)
 obtain ⟨ls,t1,t2,t3⟩:=z57 a y
 have hn:(preN m.pp:Int)=m.pp:=by unfold preN;omega
 obtain ⟨l2,p1,p2⟩:=z85 x (preN m.pp) (by omega) ls (by omega)
 have hpath:(doneN m x (tameA a y)).path=[⟨2,l2⟩]:=by rw [d4,t1,p1]
 have tl:=(xr a y).2.2
 have tc:=w7 (a.cms.take 2)
 rw [List.length_take] at tc
 have hcl:(canonC (tameA a y).cms).length≤4:=by have:=xj (tameA a y).cms;simp only [tameA] at *;omega
 have hpu:=xh (canonC (tameA a y).cms) m.ac
 refine ⟨⟨?_,?_,?_,?_,?_,?_,?_⟩,?_⟩
 ·rw [d1];simp only [tameA];omega
 ·rw [hpath]
  refine ⟨fun s hs => ?_,by simp⟩
  rw [List.mem_singleton] at hs
  subst hs
  exact ⟨.inr rfl,by show 1≤l2.length;omega,by show l2.length≤255;omega⟩
 ·rw [d2];exact (z3t ha).1
 ·rw [d7,d8];intro h;simp at h;simp [h.1,h.2]
 ·rw [d5,d6];intro h;simp at h;simp [h.1,h.2]
 ·rw [d9];split <;> omega
 ·rw [d9];split
  ·exact xg (x7 _)
  ·exact x7 _
 ·rw [hpath,t1]
  simp only [countF,List.map_cons,List.map_nil,List.sum_cons,List.sum_nil,segL]
  simp only [show ¬ ((2:Int)=1) by decide,if_false,if_true]
  exact ⟨by omega,by omega⟩
set_option maxHeartbeats 2000000 in
set_option maxRecDepth 20000 in
theorem z6c (rs:List Rule) (hrs:∀ r ∈ rs,r.ok) (x n size:Int) (hs:I64 size) (a:At) (ho:I64 a.org) (hna:0≤a.nxt):Pur Try.prog 4 [.sl 12 (rs.map Rule.c),.int .u32 x,.int .u32 n,.int .i64 size,.agg a.c] (.bool true):=by
 refine zp Tst.F4 (by simp [Tst.F4,Fn.mkX]) fun σ => ?_
 simp only [Tst.F4,Fn.mkX,Tst.b4,yl,wz]
 have e12:∀ y:Rule,y.c.length=12:=fun _=>rfl
 have t12:∀ y:Rule,List.take 12 y.c=y.c:=fun _=>rfl
 have e9:∀ y:At,y.c.length=9:=fun _=>rfl
 have t9:∀ y:At,List.take 9 y.c=y.c:=fun _=>rfl
 have hz:∀ y:At,splice 0 y.c zCells=some y.c:=fun _=>rfl
 have spq:∀ q:Int×Int,splice 0 [AV.int .u32 q.1,.int .i64 q.2] [AV.int .u32 0,.int .i64 0]=some [AV.int .u32 q.1,.int .i64 q.2]:=fun _=>rfl
 simp only [↓vcPre,↓z0,↓reduceIte,vcPost,vcStd,Nat.reduceEqDiff,reduceCtorEq,Nat.reduceAdd,Nat.reduceLeDiff,Int.reduceLT,Int.reduceLE,↓u_setN]
 refine AllocQ.i0 fun p9 h9 => ?_
 have T9:=Store.set_same σ p9 (.box a.c)
 have sT:=Store.sub_set σ p9 (.box a.c) h9
 generalize σ.set p9 (.box a.c)=T at T9 sT ⊢
 simp only [↓vcPre,↓z0,↓reduceIte,vcPost,vcStd,Nat.reduceEqDiff,reduceCtorEq,Nat.reduceAdd,Nat.reduceLeDiff,Int.reduceLT,Int.reduceLE,↓u_setN]
 refine (z0i rs hrs Rd.sl).Q ?_
 rintro v T ⟨rfl,rfl⟩
 have hR:=xp rs
 have hRp:=fun m (h:m ∈ rulesK rs)=>z50 h
 generalize rulesK rs=R at hR hRp
 simp only [↓vcPre,↓z0,↓reduceIte,vcPost,vcStd,Nat.reduceEqDiff,reduceCtorEq,Nat.reduceAdd,Nat.reduceLeDiff,Int.reduceLT,Int.reduceLE,↓u_setN]
 refine (c24 n size hs).Q ?_
 generalize prefixF n size=q
 simp only [↓vcPre,↓z0,↓reduceIte,vcPost,vcStd,Nat.reduceEqDiff,reduceCtorEq,Nat.reduceAdd,Nat.reduceLeDiff,Int.reduceLT,Int.reduceLE,↓u_setN]
 refine AllocQ.i0 fun p12 h12 => ?_
 simp only [spq,↓vcPre,↓z0,↓reduceIte,vcPost,vcStd,Nat.reduceEqDiff,reduceCtorEq,Nat.reduceAdd,Nat.reduceLeDiff,Int.reduceLT,Int.reduceLE,↓u_setN]
 have sU:Store.sub T ((T.set p12 (.box [AV.int .u32 0,.int .i64 0])).set p12 (.box [AV.int .u32 q.1,.int .i64 q.2])):=z8 (Store.sub_set _ _ _ h12) h12
 have U12:=Store.set_same (T.set p12 (.box [AV.int .u32 0,.int .i64 0])) p12 (.box [AV.int .u32 q.1,.int .i64 q.2])
 generalize (T.set p12 (.box [AV.int .u32 0,.int .i64 0])).set p12 (.box [AV.int .u32 q.1,.int .i64 q.2])=U at sU U12 ⊢
 have U9:=sU _ _ T9
 have sU2:=Store.sub_trans sT sU
 simp only [U9,e9,t9,↓vcPre,↓z0,↓reduceIte,vcPost,vcStd,Nat.reduceEqDiff,reduceCtorEq,Nat.reduceAdd,Nat.reduceLeDiff,Int.reduceLT,Int.reduceLE,↓u_setN]
 refine (c25 a ho 65001).Q ?_
 have hT:=xr a 65001
 have hD:=fun m hm=>z3k (m:=m) (x:=x) (a:=a) (y:=65001) hm hna
 generalize tameA a 65001=t at hT hD
 simp only [↓vcPre,↓z0,↓reduceIte,vcPost,vcStd,Nat.reduceEqDiff,reduceCtorEq,Nat.reduceAdd,Nat.reduceLeDiff,Int.reduceLT,Int.reduceLE,↓u_setN]
 refine AllocQ.i0 fun p13 h13 => ?_
 simp only [hz,e9,↓vcPre,↓z0,↓reduceIte,vcPost,vcStd,Nat.reduceEqDiff,reduceCtorEq,Nat.reduceAdd,Nat.reduceLeDiff,Int.reduceLT,Int.reduceLE,↓u_setN]
 have sV:Store.sub U ((U.set p13 (.box zCells)).set p13 (.box t.c)):=z8 (Store.sub_set _ _ _ h13) h13
 have V13:=Store.set_same (U.set p13 (.box zCells)) p13 (.box t.c)
 generalize (U.set p13 (.box zCells)).set p13 (.box t.c)=V at sV V13 ⊢
 have V12:=sV _ _ U12
 have sV2:=Store.sub_trans sU2 sV
 simp only [V12,V13,e9,t9,↓vcPre,↓z0,↓reduceIte,vcPost,vcStd,Nat.reduceEqDiff,reduceCtorEq,Nat.reduceAdd,Nat.reduceLeDiff,Int.reduceLT,Int.reduceLE,↓u_setN]
 refine (z1x R q x t hT.1 hT.2.1 hT.2.2 (by omega) Rd.sl).Q ?_
 rintro v V ⟨rfl,rfl⟩
 have hX:=z0p (rs:=R) (x:=x) (q:=q) hT.1 hT.2.1 hT.2.2
 simp only [↓vcPre,↓z0,↓reduceIte,vcPost,vcStd,Nat.reduceEqDiff,reduceCtorEq,Nat.reduceAdd,Nat.reduceLeDiff,Int.reduceLT,Int.reduceLE,↓u_setN]
 refine AllocQ.i0 fun p14 h14 => ?_
 simp only [hz,e9,↓vcPre,↓z0,↓reduceIte,vcPost,vcStd,Nat.reduceEqDiff,reduceCtorEq,Nat.reduceAdd,Nat.reduceLeDiff,Int.reduceLT,Int.reduceLE,↓u_setN]
 have sW:Store.sub V ((V.set p14 (.box zCells)).set p14 (.box (applyA R x q t).1.c)):=z8 (Store.sub_set _ _ _ h14) h14
 have W14:=Store.set_same (V.set p14 (.box zCells)) p14 (.box (applyA R x q t).1.c)
 generalize (V.set p14 (.box zCells)).set p14 (.box (applyA R x q t).1.c)=W at sW W14 ⊢
 have W12:=sW _ _ V12
 have W13:=sW _ _ V13
 have sW2:=Store.sub_trans sV2 sW
 refine LoopQ.inv (S:=Nat×AV×Store) (fun s=>[(1,.int .u32 x),(11,.sl 12 (R.map Rule.c)),(12,.ptr p12 0),(13,.ptr p13 0),(14,.ptr p14 0),(15,.bool (applyA R x q t).2),(16,s.2.1),(17,.int .i64 (s.1:Int))]) (fun s=>s.2.2)
  (fun s=>s.1≤R.length∧Store.sub W s.2.2∧Own 12 W (((R.take s.1).filter (fun r=>matchF r q t)).map Rule.c) s.2.1 s.2.2) (fun s=>R.length+1 - s.1) (0,.nils,W) rfl (Store.sub_refl _) ⟨by simp only;omega,Store.sub_refl _,Own.nil⟩ ?_
 rintro ⟨k,v,s⟩ ⟨hk,hsub,ho2⟩
 simp only at hk hsub ho2
 simp only [↓vcPre,↓z0,↓reduceIte,vcPost,vcStd,Nat.reduceEqDiff,reduceCtorEq,Nat.reduceAdd,Nat.reduceLeDiff,Int.reduceLT,Int.reduceLE,↓u_setN]
 have s12:=hsub _ _ W12
 have s13:=hsub _ _ W13
 have s14:=hsub _ _ W14
 refine ⟨fun c1 => ?_,fun c1 => ?_⟩
 ·have ek:IntKind.i64.wrap ((k:Int)+1)=((k+1:Nat):Int):=by rw [zg (by unfold I64;omega)];omega
  simp only [s12,s13,e9,t9,e12,t12,↓vcPre,↓z0,↓reduceIte,vcPost,vcStd,Nat.reduceEqDiff,reduceCtorEq,Nat.reduceAdd,Nat.reduceLeDiff,Int.reduceLT,Int.reduceLE,↓u_setN]
  have hf:=z2p (p:=fun r=>matchF r q t) c1
  refine ⟨c1,(c27 R[k] q t hT.1.2.2).Q ?_⟩
  cases hm:matchF R[k] q t
  ·rw [hm] at hf
   simp only [ek,↓vcPre,↓z0,↓reduceIte,vcPost,vcStd,Nat.reduceEqDiff,reduceCtorEq,Nat.reduceAdd,Nat.reduceLeDiff,Int.reduceLT,Int.reduceLE,↓u_setN]
   refine NextQ.to (k+1,v,s) rfl (Store.sub_refl _) (by simp only;omega) ⟨by simp only;omega,hsub,?_⟩
   simp only
   rw [hf];simpa using ho2
  ·rw [hm] at hf
   simp only [e12,t12,↓vcPre,↓z0,↓reduceIte,vcPost,vcStd,Nat.reduceEqDiff,reduceCtorEq,Nat.reduceAdd,Nat.reduceLeDiff,Int.reduceLT,Int.reduceLE,↓u_setN]
   refine ⟨c1,AllocQ.i0 fun d hd => ?_⟩
   simp only [↓vcPre,↓z0,↓reduceIte,vcPost,vcStd,Nat.reduceEqDiff,reduceCtorEq,Nat.reduceAdd,Nat.reduceLeDiff,Int.reduceLT,Int.reduceLE,↓u_setN]
   have sd:=Store.sub_set s d (.arr 12 [R[k].c]) hd
   refine Own.app (τ:=W) (w:=R[k].c) (Store.sub_trans hsub sd) (ho2.mono sd) (zq (Store.set_same _ _ _) rfl) (by
    have:=List.length_filter_le (fun r=>matchF r q t) (R.take k)
    rw [List.length_take] at this
    rw [List.length_map];omega) fun v' s' hs' ho3 => ?_
   simp only [ek,↓vcPre,↓z0,↓reduceIte,vcPost,vcStd,Nat.reduceEqDiff,reduceCtorEq,Nat.reduceAdd,Nat.reduceLeDiff,Int.reduceLT,Int.reduceLE,↓u_setN]
   refine NextQ.to (k+1,v',s') rfl (Store.sub_refl _) (by simp only;omega) ⟨by simp only;omega,hs',?_⟩
   simp only
   rw [hf];simpa using ho3
 ·have hkl:R.take k=R:=List.take_of_length_le (by omega)
  rw [hkl] at ho2
  simp only [s12,s13,e9,t9,↓vcPre,↓z0,↓reduceIte,vcPost,vcStd,Nat.reduceEqDiff,reduceCtorEq,Nat.reduceAdd,Nat.reduceLeDiff,Int.reduceLT,Int.reduceLE,↓u_setN]
  have hML:(R.filter (fun r=>matchF r q t)).length≤3:=Nat.le_trans (List.length_filter_le _ _) hR
  have hfind:applyA (R.filter (fun r=>matchF r q t)) x q t=applyA R x q t:=by unfold applyA;rw [qb]
  have hnone:R.filter (fun r=>matchF r q t)=[]→applyA R x q t=(canonA t,true):=fun h=>by
   rw [←hfind,h];rfl
  have hone:∀ m M,R.filter (fun r=>matchF r q t)=m::M→applyA R x q t=(if m.rj then (zeroAt,false) else (doneN m x t,true))∧applyA [m] x q t=applyA R x q t∧(0≤m.pp∧m.pp≤2):=fun m M h=>by
   obtain ⟨f1,f2⟩:=z4l h
   have e1:applyA R x q t=(if m.rj then (zeroAt,false) else (doneN m x t,true)):=by unfold applyA;rw [f1]
   refine ⟨e1,?_,hRp m ?_⟩
   ·rw [e1];unfold applyA;rw [List.find?_cons,f2]
   ·exact (List.mem_filter.1 (by rw [h];simp:m ∈ R.filter (fun r=>matchF r q t))).1
  generalize hM:R.filter (fun r=>matchF r q t)=M at ho2 hML hfind hnone hone
  have sS2:=Store.sub_trans sW2 hsub
  refine (z1x M q x t hT.1 hT.2.1 hT.2.2 (by omega) (Rd.own ho2)).Q ?_
  rintro w s ⟨rfl,rfl⟩
  rw [hfind]
  generalize hXX:applyA R x q t=X at hX s14 hnone hone
  simp only [↓vcPre,↓z0,↓reduceIte,vcPost,vcStd,Nat.reduceEqDiff,reduceCtorEq,Nat.reduceAdd,Nat.reduceLeDiff,Int.reduceLT,Int.reduceLE,↓u_setN]
  refine AllocQ.i0 fun p18 h18 => ?_
  simp only [hz,e9,↓vcPre,↓z0,↓reduceIte,vcPost,vcStd,Nat.reduceEqDiff,reduceCtorEq,Nat.reduceAdd,Nat.reduceLeDiff,Int.reduceLT,Int.reduceLE,↓u_setN]
  have n14:¬ p14=p18:=fun e=>by subst e;rw [s14] at h18;cases h18
  have sY:Store.sub s ((s.set p18 (.box zCells)).set p18 (.box X.1.c)):=z8 (Store.sub_set _ _ _ h18) h18
  have Y18:=Store.set_same (s.set p18 (.box zCells)) p18 (.box X.1.c)
  have ho3:=ho2.mono sY
  generalize (s.set p18 (.box zCells)).set p18 (.box X.1.c)=Y at sY Y18 ho3 ⊢
  have Y14:=sY _ _ s14
  have Y13:=sY _ _ s13
  have Y12:=sY _ _ s12
  have sY2:=Store.sub_trans sS2 sY
  have hka:=c18 X.1 X.1 hX hX
  rw [show decide (X.1=X.1)=true by simp] at hka
  simp only [Y14,Y18,e9,t9,↓vcPre,↓z0,↓reduceIte,vcPost,vcStd,Nat.reduceEqDiff,reduceCtorEq,Nat.reduceAdd,Nat.reduceLeDiff,Int.reduceLT,Int.reduceLE,↓u_setN]
  refine hka.Q ?_
  have hlv:pv .len [v]=some (.int .i64 (M.length:Int)):=by
   rcases ho3 with ⟨h0,rfl⟩ | ⟨g,rfl,_,_⟩
   ·have:M=[]:=by simpa using h0
    rw [this];rfl
   ·simp [pv,pLen]
  simp only [bne_self_eq_false,hlv,↓vcPre,↓z0,↓reduceIte,vcPost,vcStd,Nat.reduceEqDiff,reduceCtorEq,Nat.reduceAdd,Nat.reduceLeDiff,Int.reduceLT,Int.reduceLE,↓u_setN]
  refine ⟨fun c2 => ?_,fun c2 => ?_⟩
  ·have hM0:M=[]:=List.eq_nil_of_length_eq_zero (by omega)
   have hx:=hnone hM0
   rw [hx] at hka Y14 ⊢
   simp only [Y13,Y14,e9,t9,↓vcPre,↓z0,↓reduceIte,vcPost,vcStd,Nat.reduceEqDiff,reduceCtorEq,Nat.reduceAdd,Nat.reduceLeDiff,Int.reduceLT,Int.reduceLE,↓u_setN]
   refine (c13 t hT.1).q' ?_
   simp only [Y14,e9,t9,↓vcPre,↓z0,↓reduceIte,vcPost,vcStd,Nat.reduceEqDiff,reduceCtorEq,Nat.reduceAdd,Nat.reduceLeDiff,Int.reduceLT,Int.reduceLE,↓u_setN]
   refine hka.q' ?_
   simp only [↓vcPre,↓z0,↓reduceIte,vcPost,vcStd,Nat.reduceEqDiff,reduceCtorEq,Nat.reduceAdd,Nat.reduceLeDiff,Int.reduceLT,Int.reduceLE,↓u_setN]
   refine c28.q' ?_
   simp only [↓vcPre,↓z0,↓reduceIte,vcPost,vcStd,Nat.reduceEqDiff,reduceCtorEq,Nat.reduceAdd,Nat.reduceLeDiff,Int.reduceLT,Int.reduceLE,↓u_setN]
   exact sY2
  ·cases M with
   | nil=>exact absurd rfl c2
   | cons m M =>
     obtain ⟨hx1,hx2,hpp⟩:=hone m M rfl
     rcases ho3 with ⟨h0,_⟩ | ⟨g,rfl,hgW,hg⟩
     ·simp at h0
     have hrd:=Rd.osx (n:=1) hg (by simp)
     have e1:List.take 1 ((m::M).map Rule.c)=[m].map Rule.c:=rfl
     rw [e1] at hrd
     simp only [Y12,Y13,e9,t9,↓vcPre,↓z0,↓reduceIte,vcPost,vcStd,Nat.reduceEqDiff,reduceCtorEq,Nat.reduceAdd,Nat.reduceLeDiff,Int.reduceLT,Int.reduceLE,↓u_setN]
     refine ⟨⟨by simp,by simp;omega⟩,?_⟩
     rw [show AV.os g 12 (0+Int.toNat 0) (((some (1:Int)).getD ↑(M.length+1)).toNat - Int.toNat 0) = .os g 12 0 1 from rfl]
     refine (z1x [m] q x t hT.1 hT.2.1 hT.2.2 (by simp) hrd).Q ?_
     rintro w Y ⟨rfl,rfl⟩
     refine ⟨Store.sub_refl _,?_⟩
     rw [hx2]
     simp only [↓vcPre,↓z0,↓reduceIte,vcPost,vcStd,Nat.reduceEqDiff,reduceCtorEq,Nat.reduceAdd,Nat.reduceLeDiff,Int.reduceLT,Int.reduceLE,↓u_setN]
     refine AllocQ.i0 fun p20 h20 => ?_
     simp only [hz,e9,↓vcPre,↓z0,↓reduceIte,vcPost,vcStd,Nat.reduceEqDiff,reduceCtorEq,Nat.reduceAdd,Nat.reduceLeDiff,Int.reduceLT,Int.reduceLE,↓u_setN]
     have sZ:Store.sub Y ((Y.set p20 (.box zCells)).set p20 (.box X.1.c)):=z8 (Store.sub_set _ _ _ h20) h20
     have Z20:=Store.set_same (Y.set p20 (.box zCells)) p20 (.box X.1.c)
     generalize (Y.set p20 (.box zCells)).set p20 (.box X.1.c)=Z at sZ Z20 ⊢
     have Z14:=sZ _ _ Y14
     have Z13:=sZ _ _ Y13
     have Zg:=sZ _ _ hg
     have sZ2:=Store.sub_trans sY2 sZ
     have eg:∀ h,((m::M).map Rule.c)[0+Int.toNat 0]'h=m.c:=fun _=>rfl
     have r5:List.take 1 (List.drop 5 m.c)=[.bool m.rj]:=rfl
     have hgl:((m::M).map Rule.c).length=M.length+1:=by simp
     simp only [Z14,Z20,e9,t9,↓vcPre,↓z0,↓reduceIte,vcPost,vcStd,Nat.reduceEqDiff,reduceCtorEq,Nat.reduceAdd,Nat.reduceLeDiff,Int.reduceLT,Int.reduceLE,↓u_setN]
     refine hka.Q ?_
     cases hrj:m.rj
     ·rw [hrj] at hx1
      simp only [Bool.false_eq_true,if_false] at hx1
      have hd:=hD m hpp
      obtain ⟨d1,d2,d3,d4,d5,d6,d7,d8,d9⟩:=v7 m x t
      rw [hx1] at hka Z14 hX ⊢
      simp only at hka Z14 hX
      generalize doneN m x t=D at hka Z14 hX hd d1 d2 d3 d4 d5 d6 d7 d8 d9 ⊢
      have btf:(true ==false)=false:=rfl
      have z12:∀ r:Rule,splice 0 r.c zR12=some r.c:=fun _=>rfl
      have zr:zR12.length=12:=rfl
      simp only [bne_self_eq_false,Zg,eg,e12,r5,hrj,hgl,btf,t12,↓vcPre,↓z0,↓reduceIte,vcPost,vcStd,Nat.reduceEqDiff,reduceCtorEq,Nat.reduceAdd,Nat.reduceLeDiff,Int.reduceLT,Int.reduceLE,↓u_setN]
      refine ⟨by omega,by simp,by omega,by simp,?_⟩
      refine AllocQ.i0 fun p22 h22 => ?_
      have eg2:∀ h,((m::M)[0+Int.toNat 0]'h).c=m.c:=fun _=>rfl
      simp only [eg2,t12,z12,zr,e12,↓vcPre,↓z0,↓reduceIte,vcPost,vcStd,Nat.reduceEqDiff,reduceCtorEq,Nat.reduceAdd,Nat.reduceLeDiff,Int.reduceLT,Int.reduceLE,↓u_setN]
      have sA:Store.sub Z ((Z.set p22 (.box zR12)).set p22 (.box m.c)):=z8 (Store.sub_set _ _ _ h22) h22
      have A22:=Store.set_same (Z.set p22 (.box zR12)) p22 (.box m.c)
      generalize (Z.set p22 (.box zR12)).set p22 (.box m.c)=A at sA A22 ⊢
      have A14:=sA _ _ Z14
      have A13:=sA _ _ Z13
      have sA2:=Store.sub_trans sZ2 sA
      have b0:∀ b:At,List.take 1 b.c=[.int .i64 b.org]:=fun _=>rfl
      have b1:∀ b:At,List.take 1 (List.drop 1 b.c)=[.sl 2 (b.path.map Seg.c)]:=fun _=>rfl
      have b2:∀ b:At,List.take 1 (List.drop 2 b.c)=[.int .u32 b.nxt]:=fun _=>rfl
      have b3:∀ b:At,List.take 1 (List.drop 3 b.c)=[.bool b.hm]:=fun _=>rfl
      have b4:∀ b:At,List.take 1 (List.drop 4 b.c)=[.int .u32 b.med]:=fun _=>rfl
      have b5:∀ b:At,List.take 1 (List.drop 5 b.c)=[.bool b.hp]:=fun _=>rfl
      have b6:∀ b:At,List.take 1 (List.drop 6 b.c)=[.int .u32 b.prf]:=fun _=>rfl
      have f6:List.take 1 (List.drop 6 m.c)=[.bool m.sp]:=rfl
      have f7:List.take 1 (List.drop 7 m.c)=[.int .u32 m.pf]:=rfl
      have f8:List.take 1 (List.drop 8 m.c)=[.bool m.sm]:=rfl
      have f9:List.take 1 (List.drop 9 m.c)=[.int .u32 m.md]:=rfl
      have f10:List.take 1 (List.drop 10 m.c)=[.int .i64 m.pp]:=rfl
      have hcD:=c29 D.path hX.1 hX.2.1
      have hct:=c29 t.path hT.1.1 hT.1.2.1
      have hcc:IntKind.i64.wrap ((countF t.path:Int)+m.pp)=(countF D.path:Int):=by
       have:=hd.2.2
       rw [hd.2.1,zg (by unfold I64;omega)]
      have hrt:=c30 D hX
      rw [show decide (atRight D)=true by simp [hd.1]] at hrt
      cases hsp:m.sp <;> cases hsm:m.sm
      all_goals
       rw [hsp] at d5 d6
       rw [hsm] at d7 d8
       simp only [Bool.false_or,Bool.true_or,if_true,Bool.false_eq_true,if_false] at d5 d6 d7 d8
       simp only [A22,A14,A13,e12,e9,t9,b0,b1,b2,b3,b4,b5,b6,f6,f7,f8,f9,f10,hsp,hsm,d1,d2,d5,d6,d7,d8,↓vcPre,↓z0,↓reduceIte,vcPost,vcStd,Nat.reduceEqDiff,reduceCtorEq,Nat.reduceAdd,Nat.reduceLeDiff,Int.reduceLT,Int.reduceLE,↓u_setN]
       refine hcD.q' ?_
       simp only [↓vcPre,↓z0,↓reduceIte,vcPost,vcStd,Nat.reduceEqDiff,reduceCtorEq,Nat.reduceAdd,Nat.reduceLeDiff,Int.reduceLT,Int.reduceLE,↓u_setN]
       refine hct.q' ?_
       simp only [hcc,A14,A13,e9,t9,b0,b2,d1,d2,↓vcPre,↓z0,↓reduceIte,vcPost,vcStd,Nat.reduceEqDiff,reduceCtorEq,Nat.reduceAdd,Nat.reduceLeDiff,Int.reduceLT,Int.reduceLE,↓u_setN]
       refine hrt.q' ?_
       simp only [↓vcPre,↓z0,↓reduceIte,vcPost,vcStd,Nat.reduceEqDiff,reduceCtorEq,Nat.reduceAdd,Nat.reduceLeDiff,Int.reduceLT,Int.reduceLE,↓u_setN]
       refine c28.q' ?_
       simp only [↓vcPre,↓z0,↓reduceIte,vcPost,vcStd,Nat.reduceEqDiff,reduceCtorEq,Nat.reduceAdd,Nat.reduceLeDiff,Int.reduceLT,Int.reduceLE,↓u_setN]
       exact sA2
     ·rw [hrj] at hx1
      simp only [if_true] at hx1
      rw [hx1]
      have bft:(false ==true)=false:=rfl
      simp only [bne_self_eq_false,Zg,eg,e12,r5,hrj,hgl,bft,↓vcPre,↓z0,↓reduceIte,vcPost,vcStd,Nat.reduceEqDiff,reduceCtorEq,Nat.reduceAdd,Nat.reduceLeDiff,Int.reduceLT,Int.reduceLE,↓u_setN]
      refine ⟨by omega,by simp,c28.Q ?_⟩
      simp only [↓vcPre,↓z0,↓reduceIte,vcPost,vcStd,Nat.reduceEqDiff,reduceCtorEq,Nat.reduceAdd,Nat.reduceLeDiff,Int.reduceLT,Int.reduceLE,↓u_setN]
      exact sZ2
end Go.Am
namespace Go.Am.Ts22
open Go.Proofs Go.Am.B
def t6_112:BC:=z [f 112 8 11,l 113 1 112,m 14 113] [5,12,14] (.seq (z [f 114 11 5,l 115 1 114,p 116 (.bin .neq) [.t 115,.c (.int .u32 0)]] [5,12,14,116] (.cond (.t 116) (.ops [m 117 14,f 118 11 5,l 119 1 118,g 120 33 [.t 117,.t 119],m 14 120] [12,14]) .skip)) (.seq (z [m 121 14,u 122 .len 121,f 123 8 12,l 124 1 123,u 125 .len 124,b 126 .neq 122 125] [12,14,126] (.cond (.t 126) (z [k 10 (.bool false)] [10] .ret) .skip)) (.seq (z [j 15 0] [12,14,15] (.block 0 (.loop [12,14,15] (.seq (z [m 127 15,m 128 14,u 129 .len 128,b 130 .lss 127 129] [12,14,15,130] (.cond (.t 130) .skip (.exit 0))) (.seq (.block 1 (z [m 133 14,m 134 15,x 135 1 133 134,f 137 8 12,m 139 15,l 136 1 135,l 138 1 137,x 140 1 138 139,l 141 1 140,b 142 .neq 136 141] [12,14,15,142] (.cond (.t 142) (z [k 10 (.bool false)] [10] .ret) .skip))) (.ops [m 131 15,c 132 .add 131 1,m 15 132] [12,14,15])))))) (z [g 143 28 [],m 10 143] [10] .ret))))
def t6_40:BC := .seq (z [m 40 13,u 41 .not 40,m 42 41,⟨some 43,some (42,false),.pure (.fld 0),[.t 12]⟩,⟨some 44,some (42,false),.load (.ld 1 false),[.t 43]⟩,⟨some 45,some (42,false),.pure (.fld 0),[.t 11]⟩,⟨some 46,some (42,false),.load (.ld 1 false),[.t 45]⟩,⟨some 47,some (42,false),.pure (.bin .neq),[.t 44,.t 46]⟩,⟨some 48,none,.pick,[.t 42,.c (.bool true),.t 47]⟩,m 49 48,⟨some 50,some (49,false),.pure (.fld 2),[.t 12]⟩,⟨some 51,some (49,false),.load (.ld 1 false),[.t 50]⟩,⟨some 52,some (49,false),.pure (.fld 2),[.t 11]⟩,⟨some 53,some (49,false),.load (.ld 1 false),[.t 52]⟩,⟨some 54,some (49,false),.pure (.bin .neq),[.t 51,.t 53]⟩,⟨some 55,none,.pick,[.t 49,.c (.bool true),.t 54]⟩,m 56 55,⟨some 57,some (56,false),.pure (.fld 7),[.t 12]⟩,⟨some 58,some (56,false),.load (.ld 1 false),[.t 57]⟩,⟨some 59,some (56,false),.pure (.fld 7),[.t 11]⟩,⟨some 60,some (56,false),.load (.ld 1 false),[.t 59]⟩,⟨some 61,some (56,false),.pure (.eqb true),[.t 58,.t 60]⟩,⟨some 62,none,.pick,[.t 56,.c (.bool true),.t 61]⟩] [5,11,12,62] (.cond (.t 62) (z [k 10 (.bool false)] [10] .ret) .skip)) (.seq (z [f 63 6 5,l 64 1 63,u 65 .not 64,m 66 65,⟨some 67,some (66,true),.pure (.fld 5),[.t 12]⟩,⟨some 68,some (66,true),.load (.ld 1 false),[.t 67]⟩,⟨some 69,some (66,true),.pure (.fld 5),[.t 11]⟩,⟨some 70,some (66,true),.load (.ld 1 false),[.t 69]⟩,⟨some 71,some (66,true),.pure (.eqb true),[.t 68,.t 70]⟩,⟨some 72,some (66,true),.pure (.mov),[.t 71]⟩,⟨some 73,some (72,false),.pure (.fld 6),[.t 12]⟩,⟨some 74,some (72,false),.load (.ld 1 false),[.t 73]⟩,⟨some 75,some (72,false),.pure (.fld 6),[.t 11]⟩,⟨some 76,some (72,false),.load (.ld 1 false),[.t 75]⟩,⟨some 77,some (72,false),.pure (.bin .neq),[.t 74,.t 76]⟩,⟨some 78,some (66,true),.pick,[.t 72,.c (.bool true),.t 77]⟩,⟨some 79,none,.pick,[.t 66,.t 78,.c (.bool false)]⟩,m 80 79,⟨some 81,some (80,false),.pure (.fld 8),[.t 5]⟩,⟨some 82,some (80,false),.load (.ld 1 false),[.t 81]⟩,⟨some 83,some (80,false),.pure (.not),[.t 82]⟩,⟨some 84,some (80,false),.pure (.mov),[.t 83]⟩,⟨some 85,some (84,true),.pure (.fld 3),[.t 12]⟩,⟨some 86,some (84,true),.load (.ld 1 false),[.t 85]⟩,⟨some 87,some (84,true),.pure (.fld 3),[.t 11]⟩,⟨some 88,some (84,true),.load (.ld 1 false),[.t 87]⟩,⟨some 89,some (84,true),.pure (.eqb true),[.t 86,.t 88]⟩,⟨some 90,some (84,true),.pure (.mov),[.t 89]⟩,⟨some 91,some (90,false),.pure (.fld 4),[.t 12]⟩,⟨some 92,some (90,false),.load (.ld 1 false),[.t 91]⟩,⟨some 93,some (90,false),.pure (.fld 4),[.t 11]⟩,⟨some 94,some (90,false),.load (.ld 1 false),[.t 93]⟩,⟨some 95,some (90,false),.pure (.bin .neq),[.t 92,.t 94]⟩,⟨some 96,some (84,true),.pick,[.t 90,.c (.bool true),.t 95]⟩,⟨some 97,some (80,false),.pick,[.t 84,.t 96,.c (.bool false)]⟩,⟨some 98,none,.pick,[.t 80,.c (.bool true),.t 97]⟩,m 99 98,⟨some 100,some (99,false),.pure (.fld 10),[.t 5]⟩,⟨some 101,some (99,false),.load (.ld 1 false),[.t 100]⟩,⟨some 102,some (99,false),.pure (.bin .eql),[.t 101,.c (.int .i64 0)]⟩,⟨some 103,some (99,false),.pure (.mov),[.t 102]⟩,⟨some 104,some (103,true),.pure (.fld 1),[.t 12]⟩,⟨some 105,some (103,true),.load (.ld 1 false),[.t 104]⟩,⟨some 106,some (103,true),.pure (.fld 1),[.t 11]⟩,⟨some 107,some (103,true),.load (.ld 1 false),[.t 106]⟩,⟨some 108,some (103,true),.loud (.call 32),[.t 105,.t 107]⟩,⟨some 109,some (103,true),.pure (.bin .neq),[.t 108,.c (.int .i64 0)]⟩,⟨some 110,some (99,false),.pick,[.t 103,.t 109,.c (.bool false)]⟩,⟨some 111,none,.pick,[.t 99,.c (.bool true),.t 110]⟩] [5,11,12,111] (.cond (.t 111) (z [k 10 (.bool false)] [10] .ret) .skip)) t6_112)
def t6_32:BC := .seq (z [m 32 1] [2,3,5,11,32] (z [m 33 2] [3,5,11,32,33] (z [m 34 3] [5,11,32,33,34] (z [⟨some 30,none,.load (.ld 12 true),[.t 5]⟩] [5,11,30,32,33,34] (z [⟨some 36,none,.load (.ld 9 true),[.t 11]⟩] [5,11,30,32,33,34,36] (.both (z [⟨some 31,none,.alloc (.mksl 12 1),[.t 30]⟩] [5,11,31,32,33,34,36] (z [⟨some 35,none,.qcall 24,[.t 33,.t 34]⟩] [5,11,31,32,35,36] (z [⟨some 37,none,.qcall 26,[.t 31,.t 32,.t 35,.t 36]⟩] [5,11,37] (z [m 29 37] [5,11,29] (z [e 38 0 29] [5,11,29,38] (z [e 39 1 29] [5,11,38,39] (z [⟨some 12,none,.alloc (.alloc [(.int .i64 0),.nils,(.int .u32 0),(.bool false),(.int .u32 0),(.bool false),(.int .u32 0),(.bool false),.nils]),[]⟩] [5,11,12,38,39] (z [s 9 12 38] [5,11,12,39] (z [m 13 39] [5,11,12,13] (.ops [] [5,11,12,13])))))))))) (.both (z [⟨some 35,none,.qcall 24,[.t 33,.t 34]⟩] [5,11,30,32,35,36] (z [⟨some 31,none,.alloc (.mksl 12 1),[.t 30]⟩] [5,11,31,32,35,36] (z [⟨some 37,none,.qcall 26,[.t 31,.t 32,.t 35,.t 36]⟩] [5,11,37] (z [m 29 37] [5,11,29] (z [e 38 0 29] [5,11,29,38] (z [e 39 1 29] [5,11,38,39] (z [⟨some 12,none,.alloc (.alloc [(.int .i64 0),.nils,(.int .u32 0),(.bool false),(.int .u32 0),(.bool false),(.int .u32 0),(.bool false),.nils]),[]⟩] [5,11,12,38,39] (z [s 9 12 38] [5,11,12,39] (z [m 13 39] [5,11,12,13] (.ops [] [5,11,12,13])))))))))) (.both (z [⟨some 12,none,.alloc (.alloc [(.int .i64 0),.nils,(.int .u32 0),(.bool false),(.int .u32 0),(.bool false),(.int .u32 0),(.bool false),.nils]),[]⟩] [5,11,12,30,32,33,34,36] (.both (z [⟨some 31,none,.alloc (.mksl 12 1),[.t 30]⟩] [5,11,12,31,32,33,34,36] (z [⟨some 35,none,.qcall 24,[.t 33,.t 34]⟩] [5,11,12,31,32,35,36] (z [⟨some 37,none,.qcall 26,[.t 31,.t 32,.t 35,.t 36]⟩] [5,11,12,37] (z [m 29 37] [5,11,12,29] (z [e 38 0 29] [5,11,12,29,38] (z [e 39 1 29] [5,11,12,38,39] (z [s 9 12 38] [5,11,12,39] (z [m 13 39] [5,11,12,13] (.ops [] [5,11,12,13]))))))))) (.both (z [⟨some 35,none,.qcall 24,[.t 33,.t 34]⟩] [5,11,12,30,32,35,36] (z [⟨some 31,none,.alloc (.mksl 12 1),[.t 30]⟩] [5,11,12,31,32,35,36] (z [⟨some 37,none,.qcall 26,[.t 31,.t 32,.t 35,.t 36]⟩] [5,11,12,37] (z [m 29 37] [5,11,12,29] (z [e 38 0 29] [5,11,12,29,38] (z [e 39 1 29] [5,11,12,38,39] (z [s 9 12 38] [5,11,12,39] (z [m 13 39] [5,11,12,13] (.ops [] [5,11,12,13]))))))))) (.top)))) (.top))))))))) t6_40
def b6:BC:=z [⟨some 5,none,.alloc (.box),[.t 0]⟩,⟨some 9,none,.alloc (.box),[.t 4]⟩,k 10 (.bool false)] [1,2,3,5,9] (z [⟨some 16,none,.load (.ld 9 true),[.t 9]⟩,g 17 25 [.t 16,.c (.int .u32 65001)],⟨some 11,none,.alloc (.alloc [(.int .i64 0),.nils,(.int .u32 0),(.bool false),(.int .u32 0),(.bool false),(.int .u32 0),(.bool false),.nils]),[]⟩,s 9 11 17] [1,2,3,5,11] (z [⟨some 18,none,.load (.ld 12 true),[.t 5]⟩,⟨some 19,none,.alloc (.mksl 12 1),[.t 18]⟩,g 20 23 [.t 19],p 21 (.idx 12) [.t 20,.c (.int .i64 0)],⟨some 22,none,.load (.ld 12 true),[.t 21]⟩,s 12 5 22] [1,2,3,5,11] (z [f 23 4 5,⟨none,none,.loud (.st 1),[.t 23,.c (.int .u32 0)]⟩,f 24 2 5,⟨none,none,.loud (.st 1),[.t 24,.c (.int .i64 0)]⟩,f 25 3 5,⟨none,none,.loud (.st 1),[.t 25,.c (.int .i64 32)]⟩,f 26 5 5,⟨none,none,.loud (.st 1),[.t 26,.c (.bool false)]⟩] [1,2,3,5,11] (z [p 27 (.build [(.int .u32 0),(.int .i64 0)] []) [],f 28 0 5,s 2 28 27] [1,2,3,5,11] t6_32))))
def F6:Fn Try.prog 6:=Fn.mkX false b6 [.t 10] 144 Try.f6 _ Try.func6 (by decide) rfl Try.ntmps6 (by kernel_rfl) (by kernel_rfl)
end Go.Am.Ts22
namespace Go.Am
open Go.Proofs Go.Sort
theorem z56 (l:List Int):Inc (tameC l):=by
 have key:∀ (l:List Int) (b:List Int),Inc b→Inc (l.foldl (fun c x=>putL c (tcm x)) b):=by
  intro l
  induction l with
  | nil=>intro b h;exact h
  | cons y r ih=>intro b h;exact ih _ (xg h)
 exact key l [] (by simp [Inc])
section
variable {r:Rule} {t X:At} {σ:Store} {n rr:Env→Store→Prop} {xx:Nat→Env→Store→Prop} {p5 p11 p12:Nat}
theorem z10 {T:Store} (ht:t.ok) (hX:X.ok) (ht3:t.cms.length≤1000) (h1:X.org=t.org) (h2:X.nxt=t.nxt) (h3:X.atm=t.atm) (h4:r.sp=false→X.hp=t.hp∧X.prf=t.prf) (h5:r.sm=false→X.hm=t.hm∧X.med=t.med) (h6:r.pp=0→X.path=t.path)
 (h7:X.cms=if r.ac≠0 then putL t.cms r.ac else t.cms) (T5:T p5=some (.box r.c)) (T11:T p11=some (.box t.c)) (T12:T p12=some (.box X.c)) (hs:Store.sub σ T)
 (hr:∀ t',Store.sub σ t'→rr [(10,.bool true)] t') (E:List (Nat×AV)):bwp Try.prog Ts22.t6_112 ((5,.ptr p5 0)::(11,.ptr p11 0)::(12,.ptr p12 0)::E) T n rr xx:=by
 simp only [Ts22.t6_112]
 have e12:r.c.length=12:=rfl
 have e9:∀ y:At,y.c.length=9:=fun _=>rfl
 have b0:∀ b:At,List.take 1 b.c=[.int .i64 b.org]:=fun _=>rfl
 have b1:∀ b:At,List.take 1 (List.drop 1 b.c)=[.sl 2 (b.path.map Seg.c)]:=fun _=>rfl
 have b2:∀ b:At,List.take 1 (List.drop 2 b.c)=[.int .u32 b.nxt]:=fun _=>rfl
 have b3:∀ b:At,List.take 1 (List.drop 3 b.c)=[.bool b.hm]:=fun _=>rfl
 have b4:∀ b:At,List.take 1 (List.drop 4 b.c)=[.int .u32 b.med]:=fun _=>rfl
 have b5:∀ b:At,List.take 1 (List.drop 5 b.c)=[.bool b.hp]:=fun _=>rfl
 have b6:∀ b:At,List.take 1 (List.drop 6 b.c)=[.int .u32 b.prf]:=fun _=>rfl
 have b7:∀ b:At,List.take 1 (List.drop 7 b.c)=[.bool b.atm]:=fun _=>rfl
 have b8:∀ b:At,List.take 1 (List.drop 8 b.c)=[.sl 1 (b.cms.map cU)]:=fun _=>rfl
 have f6:List.take 1 (List.drop 6 r.c)=[.bool r.sp]:=rfl
 have f8:List.take 1 (List.drop 8 r.c)=[.bool r.sm]:=rfl
 have f10:List.take 1 (List.drop 10 r.c)=[.int .i64 r.pp]:=rfl
 have f11:List.take 1 (List.drop 11 r.c)=[.int .u32 r.ac]:=rfl
 have hcl:X.cms.length≤1001:=by
  rw [h7];have:=xh t.cms r.ac
  split <;> omega
 have hord:r.pp=0→Pur Try.prog 32 [.sl 2 (X.path.map Seg.c),.sl 2 (t.path.map Seg.c)] (.int .i64 0):=fun h=>by
  have:=c32 t.path t.path ht.1 ht.1 ht.2.1 ht.2.1
  rw [cmpPath_z.2 rfl] at this
  rw [h6 h];exact this
 simp only [T5,T11,T12,e12,e9,b8,f11,↓vcPre,↓z0,↓reduceIte,vcPost,vcStd,Nat.reduceEqDiff,reduceCtorEq,Nat.reduceAdd,Nat.reduceLeDiff,Int.reduceLT,Int.reduceLE,↓u_setN]
 refine ⟨fun c => ?_,fun c => ?_⟩
 ·rw [if_pos c] at h7
  refine (z5u t.cms r.ac (by omega)).Q ?_
  rw [←h7]
  simp only [T12,e9,b8,↓vcPre,↓z0,↓reduceIte,vcPost,vcStd,Nat.reduceEqDiff,reduceCtorEq,Nat.reduceAdd,Nat.reduceLeDiff,Int.reduceLT,Int.reduceLE,↓u_setN]
  refine LoopQ.inv (S:=Nat) (fun k=>[(12,.ptr p12 0),(14,.sl 1 (X.cms.map cU)),(15,.int .i64 (k:Int))]) (fun _=>T) (fun k=>k≤X.cms.length) (fun k=>X.cms.length+1 - k) 0 rfl (Store.sub_refl _) (by omega) ?_
  rintro k hk
  simp only [↓vcPre,↓z0,↓reduceIte,vcPost,vcStd,Nat.reduceEqDiff,reduceCtorEq,Nat.reduceAdd,Nat.reduceLeDiff,Int.reduceLT,Int.reduceLE,↓u_setN]
  refine ⟨fun c1 => ?_,fun c1 => ?_⟩
  ·have ek:IntKind.i64.wrap ((k:Int)+1)=((k+1:Nat):Int):=by rw [zg (by unfold I64;omega)];omega
   have c1':k<X.cms.length:=by omega
   have eg:∀ h,(X.cms.map cU)[k]'h=[.int .u32 (X.cms[k]'c1')]:=fun h=>by simp [cU]
   simp only [T12,e9,b8,ek,↓vcPre,↓z0,↓reduceIte,vcPost,vcStd,Nat.reduceEqDiff,reduceCtorEq,Nat.reduceAdd,Nat.reduceLeDiff,Int.reduceLT,Int.reduceLE,↓u_setN]
   refine ⟨c1',by simp [cU],?_⟩
   simp only [cU,↓vcPre,↓z0,↓reduceIte,vcPost,vcStd,Nat.reduceEqDiff,reduceCtorEq,Nat.reduceAdd,Nat.reduceLeDiff,Int.reduceLT,Int.reduceLE,↓u_setN]
   refine ⟨c1',?_⟩
   exact NextQ.to (k+1) rfl (Store.sub_refl _) (by omega) (by omega)
  ·refine c28.Q ?_
   simp only [↓vcPre,↓z0,↓reduceIte,vcPost,vcStd,Nat.reduceEqDiff,reduceCtorEq,Nat.reduceAdd,Nat.reduceLeDiff,Int.reduceLT,Int.reduceLE,↓u_setN]
   exact hr _ hs
 ·rw [if_neg (by omega)] at h7
  rw [←h7]
  simp only [T12,e9,b8,↓vcPre,↓z0,↓reduceIte,vcPost,vcStd,Nat.reduceEqDiff,reduceCtorEq,Nat.reduceAdd,Nat.reduceLeDiff,Int.reduceLT,Int.reduceLE,↓u_setN]
  refine LoopQ.inv (S:=Nat) (fun k=>[(12,.ptr p12 0),(14,.sl 1 (X.cms.map cU)),(15,.int .i64 (k:Int))]) (fun _=>T) (fun k=>k≤X.cms.length) (fun k=>X.cms.length+1 - k) 0 rfl (Store.sub_refl _) (by omega) ?_
  rintro k hk
  simp only [↓vcPre,↓z0,↓reduceIte,vcPost,vcStd,Nat.reduceEqDiff,reduceCtorEq,Nat.reduceAdd,Nat.reduceLeDiff,Int.reduceLT,Int.reduceLE,↓u_setN]
  refine ⟨fun c1 => ?_,fun c1 => ?_⟩
  ·have ek:IntKind.i64.wrap ((k:Int)+1)=((k+1:Nat):Int):=by rw [zg (by unfold I64;omega)];omega
   have c1':k<X.cms.length:=by omega
   have eg:∀ h,(X.cms.map cU)[k]'h=[.int .u32 (X.cms[k]'c1')]:=fun h=>by simp [cU]
   simp only [T12,e9,b8,ek,↓vcPre,↓z0,↓reduceIte,vcPost,vcStd,Nat.reduceEqDiff,reduceCtorEq,Nat.reduceAdd,Nat.reduceLeDiff,Int.reduceLT,Int.reduceLE,↓u_setN]
   refine ⟨c1',by simp [cU],?_⟩
   simp only [cU,↓vcPre,↓z0,↓reduceIte,vcPost,vcStd,Nat.reduceEqDiff,reduceCtorEq,Nat.reduceAdd,Nat.reduceLeDiff,Int.reduceLT,Int.reduceLE,↓u_setN]
   refine ⟨c1',?_⟩
   exact NextQ.to (k+1) rfl (Store.sub_refl _) (by omega) (by omega)
  ·refine c28.Q ?_
   simp only [↓vcPre,↓z0,↓reduceIte,vcPost,vcStd,Nat.reduceEqDiff,reduceCtorEq,Nat.reduceAdd,Nat.reduceLeDiff,Int.reduceLT,Int.reduceLE,↓u_setN]
   exact hr _ hs
set_option maxHeartbeats 2000000 in
set_option maxRecDepth 20000 in
theorem z6q {T:Store} (ht:t.ok) (hX:X.ok) (ht3:t.cms.length≤1000) (h1:X.org=t.org) (h2:X.nxt=t.nxt) (h3:X.atm=t.atm) (h4:r.sp=false→X.hp=t.hp∧X.prf=t.prf) (h5:r.sm=false→X.hm=t.hm∧X.med=t.med) (h6:r.pp=0→X.path=t.path)
 (h7:X.cms=if r.ac≠0 then putL t.cms r.ac else t.cms) (T5:T p5=some (.box r.c)) (T11:T p11=some (.box t.c)) (T12:T p12=some (.box X.c)) (hs:Store.sub σ T)
 (hr:∀ t',Store.sub σ t'→rr [(10,.bool true)] t'):bwp Try.prog Ts22.t6_40 [(5,.ptr p5 0),(11,.ptr p11 0),(12,.ptr p12 0),(13,.bool true)] T n rr xx:=by
 simp only [Ts22.t6_40]
 have e12:r.c.length=12:=rfl
 have e9:∀ y:At,y.c.length=9:=fun _=>rfl
 have b0:∀ b:At,List.take 1 b.c=[.int .i64 b.org]:=fun _=>rfl
 have b1:∀ b:At,List.take 1 (List.drop 1 b.c)=[.sl 2 (b.path.map Seg.c)]:=fun _=>rfl
 have b2:∀ b:At,List.take 1 (List.drop 2 b.c)=[.int .u32 b.nxt]:=fun _=>rfl
 have b3:∀ b:At,List.take 1 (List.drop 3 b.c)=[.bool b.hm]:=fun _=>rfl
 have b4:∀ b:At,List.take 1 (List.drop 4 b.c)=[.int .u32 b.med]:=fun _=>rfl
 have b5:∀ b:At,List.take 1 (List.drop 5 b.c)=[.bool b.hp]:=fun _=>rfl
 have b6:∀ b:At,List.take 1 (List.drop 6 b.c)=[.int .u32 b.prf]:=fun _=>rfl
 have b7:∀ b:At,List.take 1 (List.drop 7 b.c)=[.bool b.atm]:=fun _=>rfl
 have b8:∀ b:At,List.take 1 (List.drop 8 b.c)=[.sl 1 (b.cms.map cU)]:=fun _=>rfl
 have f6:List.take 1 (List.drop 6 r.c)=[.bool r.sp]:=rfl
 have f8:List.take 1 (List.drop 8 r.c)=[.bool r.sm]:=rfl
 have f10:List.take 1 (List.drop 10 r.c)=[.int .i64 r.pp]:=rfl
 have f11:List.take 1 (List.drop 11 r.c)=[.int .u32 r.ac]:=rfl
 have hcl:X.cms.length≤1001:=by
  rw [h7];have:=xh t.cms r.ac
  split <;> omega
 have hord:r.pp=0→Pur Try.prog 32 [.sl 2 (X.path.map Seg.c),.sl 2 (t.path.map Seg.c)] (.int .i64 0):=fun h=>by
  have:=c32 t.path t.path ht.1 ht.1 ht.2.1 ht.2.1
  rw [cmpPath_z.2 rfl] at this
  rw [h6 h];exact this
 cases hsp:r.sp <;> cases hsm:r.sm
 all_goals
  simp only [hsp,hsm,true_implies,Bool.true_eq_false,false_implies,forall_const] at h4 h5
  simp only [T5,T11,T12,e12,e9,b0,b1,b2,b3,b4,b5,b6,b7,h1,h2,h3,h4,h5,f6,f8,f10,hsp,hsm,bne_self_eq_false,↓vcPre,↓z0,↓reduceIte,vcPost,vcStd,Nat.reduceEqDiff,reduceCtorEq,Nat.reduceAdd,Nat.reduceLeDiff,Int.reduceLT,Int.reduceLE,↓u_setN]
  refine ⟨fun c=>(hord c).Q ?_,fun _ => ?_⟩
  ·simp only [↓vcPre,↓z0,↓reduceIte,vcPost,vcStd,Nat.reduceEqDiff,reduceCtorEq,Nat.reduceAdd,Nat.reduceLeDiff,Int.reduceLT,Int.reduceLE,↓u_setN]
   exact z10 ht hX ht3 h1 h2 h3 (by rw [hsp];simp [h4]) (by rw [hsm];simp [h5]) h6 h7 T5 T11 T12 hs hr _
  ·exact z10 ht hX ht3 h1 h2 h3 (by rw [hsp];simp [h4]) (by rw [hsm];simp [h5]) h6 h7 T5 T11 T12 hs hr _
theorem z6p {W:Store} {m:Rule} {x nn size:Int} (hs:I64 size) (hT:t.ok∧t.path.length≤900000∧t.cms.length≤900000) (hTi:Inc t.cms) (hTl:t.cms.length≤2) (hTp:(if t.hp then t.prf else 0)=t.prf) (hTm:(if t.hm then t.med else 0)=t.med)
 (hm:∀ q:Int×Int,rightF q.1 q.2=true→matchF m q t=true) (hrj:m.rj=false) (W5:W p5=some (.box m.c)) (W11:W p11=some (.box t.c)) (sW:Store.sub σ W)
 (hr:∀ t',Store.sub σ t'→rr [(10,.bool true)] t'):bwp Try.prog Ts22.t6_32 [(1,.int .u32 x),(2,.int .u32 nn),(3,.int .i64 size),(5,.ptr p5 0),(11,.ptr p11 0)] W n rr xx:=by
 simp only [Ts22.t6_32,yl]
 have e12:∀ y:Rule,y.c.length=12:=fun _=>rfl
 have t12:∀ y:Rule,List.take 12 y.c=y.c:=fun _=>rfl
 have e9:∀ y:At,y.c.length=9:=fun _=>rfl
 have t9:∀ y:At,List.take 9 y.c=y.c:=fun _=>rfl
 have hz:∀ y:At,splice 0 y.c zCells=some y.c:=fun _=>rfl
 have hA:∀ q:Int×Int,rightF q.1 q.2=true→applyA [m] x q t=(doneN m x t,true):=fun q hq=>by
  unfold applyA;rw [List.find?_cons,hm q hq];simp [hrj]
 have hok:=z1e (r:=m) (x:=x) hT.1 hT.2.1 hT.2.2
 obtain ⟨d1,d2,d3,d4,d5,d6,d7,d8,d9⟩:=v7 m x t
 have tail:∀ T' p12 (nn rr:Env→Store→Prop) xx,Store.sub W T'→T' p12=some (.box (doneN m x t).c)→(∀ t',Store.sub σ t'→rr [(10,.bool true)] t')→bwp Try.prog Ts22.t6_40 [(5,.ptr p5 0),(11,.ptr p11 0),(12,.ptr p12 0),(13,.bool true)] T' nn rr xx:=by
  intro T' p12 nn rr xx q1 q2 q3
  refine z6q (r:=m) (t:=t) (X:=doneN m x t) hT.1 hok (by omega) d1 d2 d3 (fun h => ?_) (fun h => ?_) (fun h => ?_) ?_ (q1 _ _ W5) (q1 _ _ W11) q2 (Store.sub_trans sW q1) q3
  ·rw [d5,d6,h];simp [hTp]
  ·rw [d7,d8,h];simp [hTm]
  ·rw [d4,h];rfl
  ·have hpl:=xh t.cms m.ac
   rw [d9,v6 hTi]
   by_cases c:m.ac≠0
   ·rw [if_pos ⟨c,by omega⟩,if_pos c]
   ·rw [if_neg (fun h=>c h.1),if_neg c]
 have hq:rightF (prefixF nn size).1 (prefixF nn size).2=true:=z3v _ _
 have hA:=hA (prefixF nn size) hq
 have hK:=c24 nn size hs
 generalize prefixF nn size=q at hA hK
 have hApp:∀ S l,S l=some (.arr 12 [m.c])→ACalls Try.prog 26 [.os l 12 0 1,.int .u32 x,.agg [.int .u32 q.1,.int .i64 q.2],.agg t.c] S (fun v s=>s=S∧v = .tup [.agg (doneN m x t).c,.bool true]):=fun S l h=>by
  have:=z1x (σ:=S) [m] q x t hT.1 hT.2.1 hT.2.2 (by simp) (Rd.os (L:=[m].map Rule.c) h)
  rw [hA] at this
  exact this
 have w12:∀ (S:Store) p12,Store.sub W S→S p12=none→Store.sub W ((S.set p12 (.box zCells)).set p12 (.box (doneN m x t).c)):=fun S p12 h1 h2=>z8 (z8 h1 (zk h1 h2)) (zk h1 h2)
 simp only [W5,W11,e12,t12,e9,t9,↓vcPre,↓z0,↓reduceIte,vcPost,vcStd,Nat.reduceEqDiff,reduceCtorEq,Nat.reduceAdd,Nat.reduceLeDiff,Int.reduceLT,Int.reduceLE,↓u_setN]
 refine ⟨?_,?_,?_⟩
 ·refine AllocQ.i0 fun l hl => ?_
  have sl:=Store.sub_set W l (.arr 12 [m.c]) hl
  simp only [t12,↓vcPre,↓z0,↓reduceIte,vcPost,vcStd,Nat.reduceEqDiff,reduceCtorEq,Nat.reduceAdd,Nat.reduceLeDiff,Int.reduceLT,Int.reduceLE,↓u_setN]
  refine hK.q' ?_
  simp only [↓vcPre,↓z0,↓reduceIte,vcPost,vcStd,Nat.reduceEqDiff,reduceCtorEq,Nat.reduceAdd,Nat.reduceLeDiff,Int.reduceLT,Int.reduceLE,↓u_setN]
  refine (hApp _ l (Store.set_same _ _ _)).Q ?_
  rintro v S ⟨rfl,rfl⟩
  refine ⟨Store.sub_refl _,?_⟩
  simp only [↓vcPre,↓z0,↓reduceIte,vcPost,vcStd,Nat.reduceEqDiff,reduceCtorEq,Nat.reduceAdd,Nat.reduceLeDiff,Int.reduceLT,Int.reduceLE,↓u_setN]
  refine AllocQ.i0 fun p12 h12 => ?_
  simp only [hz,e9,↓vcPre,↓z0,↓reduceIte,vcPost,vcStd,Nat.reduceEqDiff,reduceCtorEq,Nat.reduceAdd,Nat.reduceLeDiff,Int.reduceLT,Int.reduceLE,↓u_setN]
  exact tail _ p12 _ _ _ (w12 _ _ sl h12) (Store.set_same _ _ _) hr
 ·refine hK.q' ?_
  simp only [↓vcPre,↓z0,↓reduceIte,vcPost,vcStd,Nat.reduceEqDiff,reduceCtorEq,Nat.reduceAdd,Nat.reduceLeDiff,Int.reduceLT,Int.reduceLE,↓u_setN]
  refine ⟨e12 m,AllocQ.i0 fun l hl => ?_⟩
  have sl:=Store.sub_set W l (.arr 12 [m.c]) hl
  simp only [t12,↓vcPre,↓z0,↓reduceIte,vcPost,vcStd,Nat.reduceEqDiff,reduceCtorEq,Nat.reduceAdd,Nat.reduceLeDiff,Int.reduceLT,Int.reduceLE,↓u_setN]
  refine (hApp _ l (Store.set_same _ _ _)).Q ?_
  rintro v S ⟨rfl,rfl⟩
  refine ⟨Store.sub_refl _,?_⟩
  simp only [↓vcPre,↓z0,↓reduceIte,vcPost,vcStd,Nat.reduceEqDiff,reduceCtorEq,Nat.reduceAdd,Nat.reduceLeDiff,Int.reduceLT,Int.reduceLE,↓u_setN]
  refine AllocQ.i0 fun p12 h12 => ?_
  simp only [hz,e9,↓vcPre,↓z0,↓reduceIte,vcPost,vcStd,Nat.reduceEqDiff,reduceCtorEq,Nat.reduceAdd,Nat.reduceLeDiff,Int.reduceLT,Int.reduceLE,↓u_setN]
  exact tail _ p12 _ _ _ (w12 _ _ sl h12) (Store.set_same _ _ _) hr
 ·refine AllocQ.i0 fun p12 h12 => ?_
  have s1:=Store.sub_set W p12 (.box zCells) h12
  simp only [↓vcPre,↓z0,↓reduceIte,vcPost,vcStd,Nat.reduceEqDiff,reduceCtorEq,Nat.reduceAdd,Nat.reduceLeDiff,Int.reduceLT,Int.reduceLE,↓u_setN]
  have fin:∀ l,(W.set p12 (.box zCells)) l=none→∀ (nn rr:Env→Store→Prop) xx,(∀ t',Store.sub σ t'→rr [(10,.bool true)] t')→bwp Try.prog Ts22.t6_40 [(5,.ptr p5 0),(11,.ptr p11 0),(12,.ptr p12 0),(13,.bool true)] (((W.set p12 (.box zCells)).set l (.arr 12 [m.c])).set p12 (.box (doneN m x t).c)) nn rr xx:=fun l hl nn rr xx h =>
   tail _ p12 _ _ _ (z8 (Store.sub_trans s1 (Store.sub_set _ l _ hl)) h12) (Store.set_same _ _ _) h
  refine ⟨?_,?_⟩
  ·refine ⟨e12 m,AllocQ.i0 fun l hl => ?_⟩
   have nl:¬ p12=l:=fun e=>by subst e;rw [Store.set_same] at hl;cases hl
   simp only [t12,↓vcPre,↓z0,↓reduceIte,vcPost,vcStd,Nat.reduceEqDiff,reduceCtorEq,Nat.reduceAdd,Nat.reduceLeDiff,Int.reduceLT,Int.reduceLE,↓u_setN]
   refine hK.q' ?_
   simp only [↓vcPre,↓z0,↓reduceIte,vcPost,vcStd,Nat.reduceEqDiff,reduceCtorEq,Nat.reduceAdd,Nat.reduceLeDiff,Int.reduceLT,Int.reduceLE,↓u_setN]
   refine (hApp _ l (Store.set_same _ _ _)).Q ?_
   rintro v S ⟨rfl,rfl⟩
   refine ⟨Store.sub_refl _,?_⟩
   simp only [hz,e9,nl,↓vcPre,↓z0,↓reduceIte,vcPost,vcStd,Nat.reduceEqDiff,reduceCtorEq,Nat.reduceAdd,Nat.reduceLeDiff,Int.reduceLT,Int.reduceLE,↓u_setN]
   exact fin l hl _ _ _ hr
  ·refine hK.q' ?_
   simp only [↓vcPre,↓z0,↓reduceIte,vcPost,vcStd,Nat.reduceEqDiff,reduceCtorEq,Nat.reduceAdd,Nat.reduceLeDiff,Int.reduceLT,Int.reduceLE,↓u_setN]
   refine ⟨e12 m,AllocQ.i0 fun l hl => ?_⟩
   have nl:¬ p12=l:=fun e=>by subst e;rw [Store.set_same] at hl;cases hl
   simp only [t12,↓vcPre,↓z0,↓reduceIte,vcPost,vcStd,Nat.reduceEqDiff,reduceCtorEq,Nat.reduceAdd,Nat.reduceLeDiff,Int.reduceLT,Int.reduceLE,↓u_setN]
   refine (hApp _ l (Store.set_same _ _ _)).Q ?_
   rintro v S ⟨rfl,rfl⟩
   refine ⟨Store.sub_refl _,?_⟩
   simp only [hz,e9,nl,↓vcPre,↓z0,↓reduceIte,vcPost,vcStd,Nat.reduceEqDiff,reduceCtorEq,Nat.reduceAdd,Nat.reduceLeDiff,Int.reduceLT,Int.reduceLE,↓u_setN]
   exact fin l hl _ _ _ hr
end
set_option maxHeartbeats 2000000 in
set_option maxRecDepth 20000 in
theorem z6d (r:Rule) (hr:r.ok) (x n size:Int) (hs:I64 size) (a:At) (ho:I64 a.org):Pur Try.prog 6 [.agg r.c,.int .u32 x,.int .u32 n,.int .i64 size,.agg a.c] (.bool true):=by
 refine zp Ts22.F6 (by simp [Ts22.F6,Fn.mkX]) fun σ => ?_
 simp only [Ts22.F6,Fn.mkX,Ts22.b6,yl]
 have e12:∀ y:Rule,y.c.length=12:=fun _=>rfl
 have t12:∀ y:Rule,List.take 12 y.c=y.c:=fun _=>rfl
 have e9:∀ y:At,y.c.length=9:=fun _=>rfl
 have t9:∀ y:At,List.take 9 y.c=y.c:=fun _=>rfl
 have hz:∀ y:At,splice 0 y.c zCells=some y.c:=fun _=>rfl
 simp only [↓vcPre,↓z0,↓reduceIte,vcPost,vcStd,Nat.reduceEqDiff,reduceCtorEq,Nat.reduceAdd,Nat.reduceLeDiff,Int.reduceLT,Int.reduceLE,↓u_setN]
 refine AllocQ.i0 fun p5 h5 => ?_
 simp only [↓vcPre,↓z0,↓reduceIte,vcPost,vcStd,Nat.reduceEqDiff,reduceCtorEq,Nat.reduceAdd,Nat.reduceLeDiff,Int.reduceLT,Int.reduceLE,↓u_setN]
 refine AllocQ.i1 fun p9 h95 h59 h9 => ?_
 simp only [e9,t9,↓vcPre,↓z0,↓reduceIte,vcPost,vcStd,Nat.reduceEqDiff,reduceCtorEq,Nat.reduceAdd,Nat.reduceLeDiff,Int.reduceLT,Int.reduceLE,↓u_setN]
 have sT:=zm (o := .box r.c) (p := .box a.c) h5 h9 h95
 have T9:=Store.set_same (σ.set p5 (.box r.c)) p9 (.box a.c)
 have T5:((σ.set p5 (.box r.c)).set p9 (.box a.c)) p5=some (.box r.c):=by rw [Store.set_ne _ _ h59];exact Store.set_same _ _ _
 generalize (σ.set p5 (.box r.c)).set p9 (.box a.c)=T at sT T9 T5 ⊢
 refine (c25 a ho 65001).Q ?_
 have hT:=xr a 65001
 have hTi:Inc (tameA a 65001).cms:=z56 _
 have hTl:(tameA a 65001).cms.length≤2:=by
  have h:=w7 (a.cms.take 2)
  rw [List.length_take] at h
  simp only [tameA];omega
 have hTp:(if (tameA a 65001).hp then (tameA a 65001).prf else 0)=(tameA a 65001).prf:=by simp only [tameA];split <;> rfl
 have hTm:(if (tameA a 65001).hm then (tameA a 65001).med else 0)=(tameA a 65001).med:=by simp only [tameA];split <;> rfl
 generalize tameA a 65001=t at hT hTi hTl hTp hTm
 simp only [↓vcPre,↓z0,↓reduceIte,vcPost,vcStd,Nat.reduceEqDiff,reduceCtorEq,Nat.reduceAdd,Nat.reduceLeDiff,Int.reduceLT,Int.reduceLE,↓u_setN]
 refine AllocQ.i0 fun p11 h11 => ?_
 simp only [hz,e9,↓vcPre,↓z0,↓reduceIte,vcPost,vcStd,Nat.reduceEqDiff,reduceCtorEq,Nat.reduceAdd,Nat.reduceLeDiff,Int.reduceLT,Int.reduceLE,↓u_setN]
 have sU:Store.sub T ((T.set p11 (.box zCells)).set p11 (.box t.c)):=z8 (Store.sub_set _ _ _ h11) h11
 have U11:=Store.set_same (T.set p11 (.box zCells)) p11 (.box t.c)
 generalize (T.set p11 (.box zCells)).set p11 (.box t.c)=U at sU U11 ⊢
 have U5:=sU _ _ T5
 simp only [U5,e12,t12,↓vcPre,↓z0,↓reduceIte,vcPost,vcStd,Nat.reduceEqDiff,reduceCtorEq,Nat.reduceAdd,Nat.reduceLeDiff,Int.reduceLT,Int.reduceLE,↓u_setN]
 refine AllocQ.i0 fun g hg => ?_
 simp only [t12,↓vcPre,↓z0,↓reduceIte,vcPost,vcStd,Nat.reduceEqDiff,reduceCtorEq,Nat.reduceAdd,Nat.reduceLeDiff,Int.reduceLT,Int.reduceLE,↓u_setN]
 have sV:=Store.sub_set U g (.arr 12 [r.c]) hg
 have Vg:=Store.set_same U g (.arr 12 [r.c])
 generalize U.set g (.arr 12 [r.c])=V at sV Vg ⊢
 have V5:=sV _ _ U5
 have V11:=sV _ _ U11
 refine (z0i [r] (fun y hy=>by rw [List.mem_singleton] at hy;subst hy;exact hr) (Rd.os Vg)).Q ?_
 rintro v V ⟨rfl,rfl⟩
 obtain ⟨r',hr'⟩:∃ r',r'=ruleK r true:=⟨_,rfl⟩
 have hpp:=z1w r true
 rw [←hr'] at hpp
 have hR:(rulesK [r]).map Rule.c=[r'.c]:=by rw [hr'];rfl
 rw [hR]
 clear hr' hR
 have e0:∀ h,[r'.c][Int.toNat 0]'h=r'.c:=fun _=>rfl
 have sR:∀ y z:Rule,splice 0 y.c z.c=some y.c:=fun _ _=>rfl
 simp only [↓vcPre,↓z0,↓reduceIte,vcPost,vcStd,Nat.reduceEqDiff,reduceCtorEq,Nat.reduceAdd,Nat.reduceLeDiff,Int.reduceLT,Int.reduceLE,↓u_setN]
 refine ⟨by decide,?_⟩
 have s4:splice 4 [.int .u32 0] r'.c=some ({ r' with cm:=0 }:Rule).c:=rfl
 have s2:splice 2 [.int .i64 0] ({ r' with cm:=0 }:Rule).c=some ({ r' with cm:=0,fr:=0 }:Rule).c:=rfl
 have s3:splice 3 [.int .i64 32] ({ r' with cm:=0,fr:=0 }:Rule).c=some ({ r' with cm:=0,fr:=0,tl:=32 }:Rule).c:=rfl
 have s5:splice 5 [.bool false] ({ r' with cm:=0,fr:=0,tl:=32 }:Rule).c=some ({ r' with cm:=0,fr:=0,tl:=32,rj:=false }:Rule).c:=rfl
 have s0:splice 0 [.int .u32 0,.int .i64 0] ({ r' with cm:=0,fr:=0,tl:=32,rj:=false }:Rule).c=some ({ r' with cm:=0,fr:=0,tl:=32,rj:=false,ad:=0,ln:=0 }:Rule).c:=rfl
 simp only [e0,t12,e12,V5,sR,s4,s2,s3,s5,s0,Store.set_set,↓vcPre,↓z0,↓reduceIte,vcPost,vcStd,Nat.reduceEqDiff,reduceCtorEq,Nat.reduceAdd,Nat.reduceLeDiff,Int.reduceLT,Int.reduceLE,↓u_setN]
 refine z6p (σ:=σ) (t:=t) (m:={ r' with cm:=0,fr:=0,tl:=32,rj:=false,ad:=0,ln:=0 }) hs hT hTi hTl hTp hTm (fun q hq=>ue _ q t rfl rfl rfl rfl rfl hq) rfl (Store.set_same _ _ _) ?_ ?_ ?_
 ·have h511:¬ p11=p5:=fun e=>by subst e;rw [T5] at h11;cases h11
  exact (Store.set_ne V _ h511).trans V11
 ·exact z8 (Store.sub_trans sT (Store.sub_trans sU sV)) h5
 ·exact fun t' h=>⟨rfl,h⟩
end Go.Am
namespace Go.Am
open Go.Proofs Go.Sort
theorem ze8 {w:World} {a:AV} {v:Value} (hr:VRel (G0 w) w a v) (h:TOk Try.prog 4 48 [a]):∃ rs:List Rule,VRel (G0 w) w (.sl 12 (rs.map Rule.c)) v∧Small rs∧∀ r ∈ rs,r.ok:=by
 obtain ⟨rs,hi,z,ho⟩:=TOk.slI (sz:=12) (by_:=72) Try.underlying48 (by kernel_rfl) (by kernel_rfl) Rule.c Rule.ok z7a h
 refine ⟨rs,?_,z6l (by omega) z,ho⟩
 obtain ⟨b,hb,hr'⟩:=hi.get 0 _ rfl
 cases hb
 exact hr'.2 _ _ _ hr
theorem zdb (rs:List Rule) (_:Small rs) (hrs:∀ r ∈ rs,r.ok) (x:Int) (_:True) (n:Int) (_:True) (size:Int) (hs:I64 size) (a:At) (ha:I64 a.org∧okNums a):Pur Try.prog 8 [.sl 12 (rs.map Rule.c),.int .u32 x,.int .u32 n,.int .i64 size,.agg a.c] (.bool true):=z3s rs hrs x n size hs a ha.1
theorem zd9 (rs:List Rule) (_:Small rs) (hrs:∀ r ∈ rs,r.ok) (x:Int) (_:True) (n:Int) (_:True) (size:Int) (hs:I64 size) (a:At) (ha:I64 a.org∧okNums a):Pur Try.prog 4 [.sl 12 (rs.map Rule.c),.int .u32 x,.int .u32 n,.int .i64 size,.agg a.c] (.bool true):=z6c rs hrs x n size hs a ha.1 ha.2.1.1
theorem zda (r:Rule) (hr:r.ok) (x:Int) (_:True) (n:Int) (_:True) (size:Int) (hs:I64 size) (a:At) (ha:I64 a.org∧okNums a):Pur Try.prog 6 [.agg r.c,.int .u32 x,.int .u32 n,.int .i64 size,.agg a.c] (.bool true):=z6d r hr x n size hs a ha.1
end Go.Am
