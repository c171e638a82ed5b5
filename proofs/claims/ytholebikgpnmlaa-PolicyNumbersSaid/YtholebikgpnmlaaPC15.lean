/- A part of the proof: a logic for calls over plain values, and the functions that the law reaches, each walked once. -/
import Derived.Test.YtholebikgpnmlaaPC14
set_option linter.unusedVariables false
set_option linter.unusedSimpArgs false
set_option linter.unusedSectionVars false
namespace Go.Am
open Go.Proofs Go.Sort
def rcommA (r:Rule) (b:At):At:=if r.ac≠0∧(putL b.cms r.ac).length≤32 then { b with cms:=putL b.cms r.ac } else b
def rdoneA (r:Rule) (x:Int) (c:At):At:=rcommA r (pathA r x (medA r (prfA r c)))
def rapplyA (rs:List Rule) (x:Int) (q:Int×Int) (a:At):At×Bool:=match rs.find? (fun r=>matchF r q (canonA a)) with
 | none=>(canonA a,true)
 | some r=>if r.rj then (zeroAt,false) else (rdoneA r x (canonA a),true)
section
variable {r:Rule} {σ:Store} {n rr:Env→Store→Prop} {xx:Nat→Env→Store→Prop} {p7 p8 p11:Nat} {as1:Int}
theorem z1g {T:Store} (b:At) (hb:b.ok) (hb2:b.path.length≤900000) (hb3:b.cms.length≤900000) (h78:¬ p8=p7) (h711:¬ p11=p7) (T7:T p7=some (.box b.c)) (T8:T p8=some (.box zCells)) (T11:T p11=some (.box r.c)) (hs:Store.sub σ T) (h7:σ p7=none) (h8:σ p8=none) (E:List (Nat×AV))
 (hr:∀ t',Store.sub σ t'→t' p8=some (.box (rcommA r (pathA r as1 b)).c)→rr [(8,.ptr p8 0),(9,.bool true)] t'):bwp Try.prog Ts21.t58_44 ((1,.int .u32 as1)::(7,.ptr p7 0)::(8,.ptr p8 0)::(11,.ptr p11 0)::E) T n rr xx:=by
 simp only [Ts21.t58_44]
 have e12:∀ y:Rule,y.c.length=12:=fun _=>rfl
 have e9:∀ y:At,y.c.length=9:=fun _=>rfl
 have t9:∀ y:At,List.take 9 y.c=y.c:=fun _=>rfl
 have hz:∀ y:At,splice 0 y.c zCells=some y.c:=fun _=>rfl
 have z9:zCells.length=9:=rfl
 have b1:∀ b:At,List.take 1 (List.drop 1 b.c)=[.sl 2 (b.path.map Seg.c)]:=fun _=>rfl
 have b8:∀ b:At,List.take 1 (List.drop 8 b.c)=[.sl 1 (b.cms.map cU)]:=fun _=>rfl
 have r10:List.take 1 (List.drop 10 r.c)=[.int .i64 r.pp]:=rfl
 have r11:List.take 1 (List.drop 11 r.c)=[.int .u32 r.ac]:=rfl
 have s1:splice 1 [AV.sl 2 ((preA as1 (preN r.pp) b.path).map Seg.c)] b.c=some (pathA r as1 b).c:=rfl
 simp only [T7,T11,b1,r10,e12,e9,↓vcPre,↓z0,↓reduceIte,vcPost,vcStd,Nat.reduceEqDiff,reduceCtorEq,Nat.reduceAdd,Nat.reduceLeDiff,Int.reduceLT,Int.reduceLE,↓u_setN]
 refine (c82 b.path hb.1 hb.2.1 as1 r.pp).Q ?_
 simp only [T7,s1,e9,↓vcPre,↓z0,↓reduceIte,vcPost,vcStd,Nat.reduceEqDiff,reduceCtorEq,Nat.reduceAdd,Nat.reduceLeDiff,Int.reduceLT,Int.reduceLE,↓u_setN]
 have U7:=Store.set_same T p7 (.box (pathA r as1 b).c)
 have U8:=(Store.set_ne T (.box (pathA r as1 b).c) h78).trans T8
 have U11:=(Store.set_ne T (.box (pathA r as1 b).c) h711).trans T11
 have sU:Store.sub σ (T.set p7 (.box (pathA r as1 b).c)):=z6 hs h7
 have hc3:(pathA r as1 b).cms.length≤900000:=hb3
 generalize T.set p7 (.box (pathA r as1 b).c)=U at U7 U8 U11 sU ⊢
 generalize pathA r as1 b=c at U7 hr hc3
 simp only [U7,U11,b8,r11,e12,e9,↓vcPre,↓z0,↓reduceIte,vcPost,vcStd,Nat.reduceEqDiff,reduceCtorEq,Nat.reduceAdd,Nat.reduceLeDiff,Int.reduceLT,Int.reduceLE,↓u_setN]
 have hc1:¬ (r.ac≠0∧(putL c.cms r.ac).length≤32)→rcommA r c=c:=fun h=>by unfold rcommA;rw [if_neg h]
 have hc2:(r.ac≠0∧(putL c.cms r.ac).length≤32)→rcommA r c={ c with cms:=putL c.cms r.ac }:=fun h=>by unfold rcommA;rw [if_pos h]
 refine ⟨fun c1 => ?_,fun c1 => ?_⟩
 ·refine (z82 c.cms r.ac (by omega)).Q ?_
  simp only [↓vcPre,↓z0,↓reduceIte,vcPost,vcStd,Nat.reduceEqDiff,reduceCtorEq,Nat.reduceAdd,Nat.reduceLeDiff,Int.reduceLT,Int.reduceLE,↓u_setN]
  refine ⟨fun c2 => ?_,fun c2 => ?_⟩
  ·rw [hc2 ⟨c1,by omega⟩] at hr
   have s8:splice 8 [AV.sl 1 ((putL c.cms r.ac).map cU)] c.c=some ({ c with cms:=putL c.cms r.ac }:At).c:=rfl
   simp only [U7,U11,b8,r11,e12,e9,↓vcPre,↓z0,↓reduceIte,vcPost,vcStd,Nat.reduceEqDiff,reduceCtorEq,Nat.reduceAdd,Nat.reduceLeDiff,Int.reduceLT,Int.reduceLE,↓u_setN]
   refine (z82 c.cms r.ac (by omega)).Q ?_
   simp only [U7,s8,e9,t9,h78,U8,hz,↓vcPre,↓z0,↓reduceIte,vcPost,vcStd,Nat.reduceEqDiff,reduceCtorEq,Nat.reduceAdd,Nat.reduceLeDiff,Int.reduceLT,Int.reduceLE,↓u_setN]
   exact hr _ (z6 (z6 sU h7) h8) (Store.set_same _ _ _)
  ·rw [hc1 (by omega)] at hr
   simp only [U7,U8,e9,t9,hz,↓vcPre,↓z0,↓reduceIte,vcPost,vcStd,Nat.reduceEqDiff,reduceCtorEq,Nat.reduceAdd,Nat.reduceLeDiff,Int.reduceLT,Int.reduceLE,↓u_setN]
   exact hr _ (z6 sU h8) (Store.set_same _ _ _)
 ·rw [hc1 (by omega)] at hr
  simp only [U7,U8,e9,t9,hz,↓vcPre,↓z0,↓reduceIte,vcPost,vcStd,Nat.reduceEqDiff,reduceCtorEq,Nat.reduceAdd,Nat.reduceLeDiff,Int.reduceLT,Int.reduceLE,↓u_setN]
  exact hr _ (z6 sU h8) (Store.set_same _ _ _)
theorem z1f {T:Store} (b:At) (hb:b.ok) (hb2:b.path.length≤900000) (hb3:b.cms.length≤900000) (h78:¬ p8=p7) (h711:¬ p11=p7) (T7:T p7=some (.box b.c)) (T8:T p8=some (.box zCells)) (T11:T p11=some (.box r.c)) (hs:Store.sub σ T) (h7:σ p7=none) (h8:σ p8=none) (E:List (Nat×AV))
 (hr:∀ t',Store.sub σ t'→t' p8=some (.box (rcommA r (pathA r as1 (medA r b))).c)→rr [(8,.ptr p8 0),(9,.bool true)] t'):bwp Try.prog Ts21.t58_38 ((1,.int .u32 as1)::(7,.ptr p7 0)::(8,.ptr p8 0)::(11,.ptr p11 0)::E) T n rr xx:=by
 simp only [Ts21.t58_38]
 have e12:∀ y:Rule,y.c.length=12:=fun _=>rfl
 have e9:∀ y:At,y.c.length=9:=fun _=>rfl
 have r8:List.take 1 (List.drop 8 r.c)=[.bool r.sm]:=rfl
 have r9:List.take 1 (List.drop 9 r.c)=[.int .u32 r.md]:=rfl
 have s3:splice 3 [.bool true] b.c=some ({ b with hm:=true }:At).c:=rfl
 have s4:splice 4 [.int .u32 r.md] ({ b with hm:=true }:At).c=some ({ b with hm:=true,med:=r.md }:At).c:=rfl
 unfold medA at hr
 simp only [T11,r8,e12,↓vcPre,↓z0,↓reduceIte,vcPost,vcStd,Nat.reduceEqDiff,reduceCtorEq,Nat.reduceAdd,Nat.reduceLeDiff,Int.reduceLT,Int.reduceLE,↓u_setN]
 cases h:r.sm
 ·rw [h] at hr
  simp only [Bool.false_eq_true,if_false] at hr
  simp only [↓vcPre,↓z0,↓reduceIte,vcPost,vcStd,Nat.reduceEqDiff,reduceCtorEq,Nat.reduceAdd,Nat.reduceLeDiff,Int.reduceLT,Int.reduceLE,↓u_setN]
  exact z1g b hb hb2 hb3 h78 h711 T7 T8 T11 hs h7 h8 _ hr
 ·rw [h] at hr
  simp only [if_true] at hr
  simp only [T7,T11,r9,e12,e9,s3,s4,h711,↓vcPre,↓z0,↓reduceIte,vcPost,vcStd,Nat.reduceEqDiff,reduceCtorEq,Nat.reduceAdd,Nat.reduceLeDiff,Int.reduceLT,Int.reduceLE,↓u_setN]
  exact z1g { b with hm:=true,med:=r.md } hb hb2 hb3 h78 h711 (Store.set_same _ _ _) (((Store.set_ne _ _ h78).trans (Store.set_ne _ _ h78)).trans T8) (((Store.set_ne _ _ h711).trans (Store.set_ne _ _ h711)).trans T11) (z6 (z6 hs h7) h7) h7 h8 [] hr
end
set_option maxHeartbeats 1000000 in
theorem s58 {σ:Store} (rs:List Rule) (q:Int×Int) (as1:Int) (a:At) (ha:a.ok) (ha2:a.path.length≤900000) (ha3:a.cms.length≤900000) (hl:rs.length≤1000000) {lv:AV} (hr:Rd 12 σ (rs.map Rule.c) lv) :
 ACalls Try.prog 58 [lv,.int .u32 as1,.agg [.int .u32 q.1,.int .i64 q.2],.agg a.c] σ (fun v s=>s=σ∧v = .tup [.agg (rapplyA rs as1 q a).1.c,.bool (rapplyA rs as1 q a).2]):=by
 refine zk Ts21.F58 (by simp [Ts21.F58,Fn.mkX]) ?_
 simp only [Ts21.F58,Fn.mkX,Ts21.b58,yz,xp]
 have e12:∀ y:Rule,y.c.length=12:=fun _=>rfl
 have t12:∀ y:Rule,List.take 12 y.c=y.c:=fun _=>rfl
 have e9:∀ y:At,y.c.length=9:=fun _=>rfl
 have t9:∀ y:At,List.take 9 y.c=y.c:=fun _=>rfl
 have hz:∀ y:At,splice 0 y.c zCells=some y.c:=fun _=>rfl
 have hzz:splice 0 zCells zCells=some zCells:=rfl
 have z12:∀ r:Rule,splice 0 r.c zR12=some r.c:=fun _=>rfl
 have z9:zCells.length=9:=rfl
 have zr:zR12.length=12:=rfl
 have y9:List.take 9 zCells=zCells:=rfl
 have sA:∀ y w:At,splice 0 y.c w.c=some y.c:=fun _ _=>rfl
 simp only [↓vcPre,↓z0,↓reduceIte,vcPost,vcStd,Nat.reduceEqDiff,reduceCtorEq,Nat.reduceAdd,Nat.reduceLeDiff,Int.reduceLT,Int.reduceLE,↓u_setN]
 refine AllocQ.i0 fun p6 h6 => ?_
 simp only [↓vcPre,↓z0,↓reduceIte,vcPost,vcStd,Nat.reduceEqDiff,reduceCtorEq,Nat.reduceAdd,Nat.reduceLeDiff,Int.reduceLT,Int.reduceLE,↓u_setN]
 refine AllocQ.i1 fun p7 h76 h67 h7 => ?_
 simp only [↓vcPre,↓z0,↓reduceIte,vcPost,vcStd,Nat.reduceEqDiff,reduceCtorEq,Nat.reduceAdd,Nat.reduceLeDiff,Int.reduceLT,Int.reduceLE,↓u_setN]
 refine AllocQ.i2 fun p8 h86 h68 h87 h78 h8 => ?_
 have hlen:=hr.2
 rw [List.length_map] at hlen
 simp only [h78,e9,t9,↓vcPre,↓z0,↓reduceIte,vcPost,vcStd,Nat.reduceEqDiff,reduceCtorEq,Nat.reduceAdd,Nat.reduceLeDiff,Int.reduceLT,Int.reduceLE,↓u_setN]
 refine (c13 a ha).Q ?_
 simp only [h78,e9,sA,↓vcPre,↓z0,↓reduceIte,vcPost,vcStd,Nat.reduceEqDiff,reduceCtorEq,Nat.reduceAdd,Nat.reduceLeDiff,Int.reduceLT,Int.reduceLE,↓u_setN]
 have sT:Store.sub σ ((((σ.set p6 (.box [.int .u32 q.1,.int .i64 q.2])).set p7 (.box a.c)).set p8 (.box zCells)).set p7 (.box (canonA a).c)):=z6 (z6 (zj h6 h7 h76) h8) h7
 have T7:((((σ.set p6 (.box [.int .u32 q.1,.int .i64 q.2])).set p7 (.box a.c)).set p8 (.box zCells)).set p7 (.box (canonA a).c)) p7=some (.box (canonA a).c):=Store.set_same _ _ _
 have T8:((((σ.set p6 (.box [.int .u32 q.1,.int .i64 q.2])).set p7 (.box a.c)).set p8 (.box zCells)).set p7 (.box (canonA a).c)) p8=some (.box zCells):=by rw [Store.set_ne _ _ h87];exact Store.set_same _ _ _
 have T6:((((σ.set p6 (.box [.int .u32 q.1,.int .i64 q.2])).set p7 (.box a.c)).set p8 (.box zCells)).set p7 (.box (canonA a).c)) p6=some (.box [.int .u32 q.1,.int .i64 q.2]):=by rw [Store.set_ne _ _ h67,Store.set_ne _ _ h68,Store.set_ne _ _ h67];exact Store.set_same _ _ _
 generalize ((((σ.set p6 (.box [.int .u32 q.1,.int .i64 q.2])).set p7 (.box a.c)).set p8 (.box zCells)).set p7 (.box (canonA a).c))=T at sT T8 T7 T6 ⊢
 have hc:(canonA a).ok:=x6 ha
 have hc2:(canonA a).path.length≤900000:=ha2
 have hc3:(canonA a).cms.length≤900000:=by have:=xv a.cms;simp only [canonA];omega
 have hAA:rapplyA rs as1 q a=(match rs.find? (fun r=>matchF r q (canonA a)) with | none=>(canonA a,true) | some r=>if r.rj then (zeroAt,false) else (rdoneA r as1 (canonA a),true)):=rfl
 rw [hAA]
 generalize canonA a=c at hc hc2 hc3 T7 ⊢
 refine LoopQ.inv (S:=Nat) (fun k=>[(0,lv),(1,.int .u32 as1),(6,.ptr p6 0),(7,.ptr p7 0),(8,.ptr p8 0),(10,.int .i64 (k:Int))]) (fun _=>T) (fun k=>k≤rs.length∧(rs.take k).find? (fun r=>matchF r q c)=none) (fun k=>rs.length+1 - k) 0 rfl (Store.sub_refl _) ⟨by omega,by simp⟩ ?_
 rintro k ⟨hk,hf⟩
 simp only [hlen,↓vcPre,↓z0,↓reduceIte,vcPost,vcStd,Nat.reduceEqDiff,reduceCtorEq,Nat.reduceAdd,Nat.reduceLeDiff,Int.reduceLT,Int.reduceLE,↓u_setN]
 refine ⟨fun c1 => ?_,fun c1 => ?_⟩
 ·have c1':k<rs.length:=by omega
  have ek:IntKind.i64.wrap ((k:Int)+1)=((k+1:Nat):Int):=by rw [zg (by unfold I64;omega)];omega
  obtain ⟨p,hp,hrd⟩:=hr.at (k:=k) (by simpa using c1')
  have hrd':=hrd T sT 12
  have eg:(rs.map Rule.c)[k]'(by simpa using c1')=rs[k].c:=List.getElem_map ..
  rw [eg] at hrd'
  have tk:takeN 0 12 rs[k].c=some rs[k].c:=rfl
  rw [tk] at hrd'
  have hft:=z0d c1' hf
  have hft1:=qf c1' hf
  generalize rs[k]=r at hrd' hft hft1
  simp only [hp,hrd',e12,t12,↓vcPre,↓z0,↓reduceIte,vcPost,vcStd,Nat.reduceEqDiff,reduceCtorEq,Nat.reduceAdd,Nat.reduceLeDiff,Int.reduceLT,Int.reduceLE,↓u_setN]
  refine AllocQ.i0 fun p11 h11 => ?_
  simp only [z12,zr,e12,↓vcPre,↓z0,↓reduceIte,vcPost,vcStd,Nat.reduceEqDiff,reduceCtorEq,Nat.reduceAdd,Nat.reduceLeDiff,Int.reduceLT,Int.reduceLE,↓u_setN]
  have n7:¬ p7=p11:=fun e=>by subst e;rw [T7] at h11;cases h11
  have sU:Store.sub T ((T.set p11 (.box zR12)).set p11 (.box r.c)):=z6 (Store.sub_set _ _ _ h11) h11
  have U11:((T.set p11 (.box zR12)).set p11 (.box r.c)) p11=some (.box r.c):=Store.set_same _ _ _
  generalize (T.set p11 (.box zR12)).set p11 (.box r.c)=U at sU U11 ⊢
  have U6:=sU _ _ T6
  have U7:=sU _ _ T7
  have U8:=sU _ _ T8
  simp only [U6,U7,U11,e9,t9,e12,t12,↓vcPre,↓z0,↓reduceIte,vcPost,vcStd,Nat.reduceEqDiff,reduceCtorEq,Nat.reduceAdd,Nat.reduceLeDiff,Int.reduceLT,Int.reduceLE,↓u_setN]
  have sU2:=Store.sub_trans sT sU
  have g5:List.take 1 (List.drop 5 r.c)=[.bool r.rj]:=rfl
  cases hm:matchF r q c
  ·have hM:=c57 r q c hc.2.2
   rw [hm] at hM
   refine hM.Q ?_
   simp only [ek,↓vcPre,↓z0,↓reduceIte,vcPost,vcStd,Nat.reduceEqDiff,reduceCtorEq,Nat.reduceAdd,Nat.reduceLeDiff,Int.reduceLT,Int.reduceLE,↓u_setN]
   exact NextQ.to (k+1) rfl sU (by omega) ⟨by omega,hft1 hm⟩
  ·have hM:=c57 r q c hc.2.2
   rw [hm] at hM
   refine hM.Q ?_
   rw [hm] at hft
   simp only [if_true] at hft
   rw [hft]
   simp only [U11,g5,e12,t12,↓vcPre,↓z0,↓reduceIte,vcPost,vcStd,Nat.reduceEqDiff,reduceCtorEq,Nat.reduceAdd,Nat.reduceLeDiff,Int.reduceLT,Int.reduceLE,↓u_setN]
   cases hj:r.rj
   ·have g6:List.take 1 (List.drop 6 r.c)=[.bool r.sp]:=rfl
    have g7:List.take 1 (List.drop 7 r.c)=[.int .u32 r.pf]:=rfl
    have fin:∀ t',Store.sub σ t'→t' p8=some (.box (rcommA r (pathA r as1 (medA r (prfA r c)))).c) → @EndQ [(8,.ptr p8 0),(9,.bool true)] t' ⟨Ts21.F58.slots,fun v s=>s=σ∧v = .tup [.agg (match some r with | none=>(c,true) | some r=>if r.rj then (zeroAt,false) else (rdoneA r as1 c,true)).1.c,.bool (match some r with | none=>(c,true) | some r=>if r.rj then (zeroAt,false) else (rdoneA r as1 c,true)).2]⟩:=fun t' q1 q2=>by
     refine EndQ.to σ (.tup [.agg (rdoneA r as1 c).c,.bool true]) ?_ q1 ⟨rfl,by simp only [hj];rfl⟩
     show Env.res [(8,AV.ptr p8 0),(9,.bool true)] _ [RS.c 8 9 true,RS.t 9]=_
     simp only [q2,e9,t9,Nat.le_refl,↓vcPre,↓z0,↓reduceIte,vcPost,vcStd,Nat.reduceEqDiff,reduceCtorEq,Nat.reduceAdd,Nat.reduceLeDiff,Int.reduceLT,Int.reduceLE,↓u_setN]
     rfl
    have hp0:r.sp=false→prfA r c=c:=fun h=>by unfold prfA;rw [h];rfl
    have hp1:r.sp=true→prfA r c={ c with hp:=true,prf:=r.pf }:=fun h=>by unfold prfA;rw [h];rfl
    have s5:splice 5 [.bool true] c.c=some ({ c with hp:=true }:At).c:=rfl
    have s6:splice 6 [.int .u32 r.pf] ({ c with hp:=true }:At).c=some ({ c with hp:=true,prf:=r.pf }:At).c:=rfl
    have n711:¬ p11=p7:=fun e=>n7 e.symm
    have hσ7:=h7
    cases h:r.sp
    ·rw [hp0 h] at fin
     simp only [U11,g6,e12,h,↓vcPre,↓z0,↓reduceIte,vcPost,vcStd,Nat.reduceEqDiff,reduceCtorEq,Nat.reduceAdd,Nat.reduceLeDiff,Int.reduceLT,Int.reduceLE,↓u_setN]
     exact z1f (σ:=σ) c hc hc2 hc3 h87 n711 U7 U8 U11 sU2 h7 h8 _ fin
    ·rw [hp1 h] at fin
     simp only [U11,U7,g6,g7,e12,e9,h,s5,s6,n711,↓vcPre,↓z0,↓reduceIte,vcPost,vcStd,Nat.reduceEqDiff,reduceCtorEq,Nat.reduceAdd,Nat.reduceLeDiff,Int.reduceLT,Int.reduceLE,↓u_setN]
     exact z1f (σ:=σ) { c with hp:=true,prf:=r.pf } hc hc2 hc3 h87 n711 (Store.set_same _ _ _) (((Store.set_ne _ _ h87).trans (Store.set_ne _ _ h87)).trans U8) (((Store.set_ne _ _ n711).trans (Store.set_ne _ _ n711)).trans U11) (z6 (z6 sU2 h7) h7) h7 h8 [] fin
   ·simp only [U8,hzz,z9,↓vcPre,↓z0,↓reduceIte,vcPost,vcStd,Nat.reduceEqDiff,reduceCtorEq,Nat.reduceAdd,Nat.reduceLeDiff,Int.reduceLT,Int.reduceLE,↓u_setN]
    refine EndQ.two (.agg zCells) (.bool false) σ ?_ ?_
    ·show Env.res [(8,AV.ptr p8 0),(9,.bool false)] _ [RS.c 8 9 true,RS.t 9]=_
     simp only [Store.set_same,z9,y9,Nat.le_refl,↓vcPre,↓z0,↓reduceIte,vcPost,vcStd,Nat.reduceEqDiff,reduceCtorEq,Nat.reduceAdd,Nat.reduceLeDiff,Int.reduceLT,Int.reduceLE,↓u_setN]
    ·exact WeakL.pos 0 rfl (z4j (WeakL.forget (z6 sU2 h8) (WeakL.pure ⟨rfl,by simp only [hj,if_true];rfl⟩)))
 ·have hkl:rs.take k=rs:=List.take_of_length_le (by omega)
  rw [hkl] at hf
  rw [hf]
  simp only [T7,T8,e9,t9,hz,↓vcPre,↓z0,↓reduceIte,vcPost,vcStd,Nat.reduceEqDiff,reduceCtorEq,Nat.reduceAdd,Nat.reduceLeDiff,Int.reduceLT,Int.reduceLE,↓u_setN]
  refine EndQ.to σ (.tup [.agg c.c,.bool true]) ?_ (z6 sT h8) ⟨rfl,rfl⟩
  show Env.res [(8,AV.ptr p8 0),(9,.bool true)] _ [RS.c 8 9 true,RS.t 9]=_
  simp only [Store.set_same,e9,t9,Nat.le_refl,↓vcPre,↓z0,↓reduceIte,vcPost,vcStd,Nat.reduceEqDiff,reduceCtorEq,Nat.reduceAdd,Nat.reduceLeDiff,Int.reduceLT,Int.reduceLE,↓u_setN]
end Go.Am
namespace Go.Am
open Go.Proofs Go.Sort
theorem z13 (r:Rule) (q:Int×Int) (a:At):matchF r q (canonA a)=matchF r q a:=by
 have:(r.cm ∈ (canonA a).cms)=(r.cm ∈ a.cms):=propext xw
 unfold matchF
 simp only [this]
theorem vq (b:At) (h1:b.hm=true∨b.med=0) (h2:b.hp=true∨b.prf=0) (h3:Inc b.cms):canonA b=b:=by
 obtain ⟨o,p,n,hm,m,hp,q,t,c⟩:=b
 simp only at h1 h2 h3
 cases hm <;> cases hp <;> simp_all [canonA,um]
theorem z3v {L:List Int} {n:Int} (hL:Inc L) (h:n ∈ L):putL L n=L:=uf (wf hL) hL fun x=>by
 rw [putL_mem];constructor
 ·rintro (rfl | h') <;> assumption
 ·exact .inr
theorem z3u {L:List Int} {n:Int} (h:n ∉ L):(putL L n).length=L.length+1:=by
 induction L with
 | nil=>simp [putL]
 | cons y r ih =>
   simp only [List.mem_cons,not_or] at h
   simp only [putL]
   split
   ·simp [ih h.2]
   ·rw [if_neg (fun e=>h.1 e.symm)];simp
theorem z2j {L:List Int} {n:Int} (hL:Inc L):canonC (L++[n])=putL L n:=uf (xu _) (wf hL) fun x=>by
 rw [xw,putL_mem,List.mem_append,List.mem_singleton];exact Or.comm
theorem z3h (r:Rule) (b:At) (h1:b.hm=true∨b.med=0) (h2:b.hp=true∨b.prf=0) (h3:Inc b.cms):canonA (commA r b)=rcommA r b:=by
 unfold commA rcommA
 by_cases c1:r.ac≠0
 ·by_cases c2:b.cms.length<32
  ·have:=z1a b.cms r.ac
   rw [if_pos ⟨c1,c2⟩,if_pos ⟨c1,by omega⟩]
   have e:canonA { b with cms:=b.cms++[r.ac] }=canonA { b with cms:=putL b.cms r.ac }:=by
    simp only [canonA,z2j h3,um (wf h3)]
   rw [e]
   exact vq _ h1 h2 (wf h3)
  ·rw [if_neg (fun h=>c2 h.2),vq b h1 h2 h3]
   by_cases c3:r.ac ∈ b.cms
   ·rw [z3v h3 c3]
    split <;> rfl
   ·rw [if_neg (fun h=>by have:=z3u c3;omega)]
 ·rw [if_neg (fun h=>c1 h.1),if_neg (fun h=>c1 h.1),vq b h1 h2 h3]
theorem z2n (r:Rule) (x:Int) (a:At):canonA (pathA r x (medA r (prfA r a)))=pathA r x (medA r (prfA r (canonA a))):=by
 unfold pathA medA prfA canonA
 cases r.sm <;> cases r.sp <;> rfl
theorem z3i (r:Rule) (x:Int) (a:At):doneN r x a=rdoneA r x (canonA a):=by
 unfold doneN rdoneA
 rw [←z2n]
 generalize pathA r x (medA r (prfA r a))=c
 refine z3h r _ ?_ ?_ (xu _)
 ·cases h:c.hm <;> simp [canonA,h]
 ·cases h:c.hp <;> simp [canonA,h]
theorem z2h (rs:List Rule) (x:Int) (q:Int×Int) (a:At):rapplyA rs x q a=applyA rs x q a:=by
 unfold rapplyA applyA
 simp only [z13,z3i]
 try rfl
theorem z4l {r:Rule} {b:At} (h:b.ok) (h2:b.cms.length≤900000):(commA r b).ok:=by
 unfold commA;split
 ·exact ⟨h.1,h.2.1,by simp;omega⟩
 ·exact h
theorem z55 {r:Rule} {x:Int} {b:At} (h:b.ok) (h2:b.path.length≤900000):(pathA r x b).ok:=by
 have:=v7 x (preN r.pp) b.path
 have h10:preN r.pp≤10:=by unfold preN;omega
 exact ⟨by simp only [pathA];omega,qz x _ _ h.2.1,h.2.2⟩
theorem z4o {r:Rule} {x:Int} {a:At} (h:a.ok) (h2:a.path.length≤900000) (h3:a.cms.length≤900000):(doneN r x a).ok:=by
 have hp:(prfA r a).path=a.path∧(prfA r a).cms=a.cms:=by unfold prfA;split <;> exact ⟨rfl,rfl⟩
 have hm:(medA r (prfA r a)).path=a.path∧(medA r (prfA r a)).cms=a.cms:=by unfold medA;split <;> exact hp
 have h0:(medA r (prfA r a)).ok:=⟨by rw [hm.1];exact h.1,by rw [hm.1];exact h.2.1,by rw [hm.2];exact h.2.2⟩
 have h4:=z55 (r:=r) (x:=x) h0 (by rw [hm.1];exact h2)
 refine x6 (z4l (x6 h4) ?_)
 have:=xv (pathA r x (medA r (prfA r a))).cms
 have e:(pathA r x (medA r (prfA r a))).cms=a.cms:=hm.2
 rw [e] at this
 simp only [canonA,e]
 omega
theorem z3d {rs:List Rule} {x:Int} {q:Int×Int} {a:At} (h:a.ok) (h2:a.path.length≤900000) (h3:a.cms.length≤900000):(applyA rs x q a).1.ok:=by
 unfold applyA
 split
 ·exact x6 h
 ·split
  ·exact z0j
  ·exact z4o h h2 h3
set_option maxHeartbeats 1000000 in
theorem s34 {σ:Store} (rs:List Rule) (q:Int×Int) (x:Int) (a:At) (ha:a.ok) (ha2:a.path.length≤900000) (ha3:a.cms.length≤900000) (hl:rs.length≤1000000) {lv:AV} (hr:Rd 12 σ (rs.map Rule.c) lv) :
 ACalls Try.prog 34 [lv,.int .u32 x,.agg [.int .u32 q.1,.int .i64 q.2],.agg a.c] σ (fun v s=>s=σ∧v = .bool true):=by
 refine zk Tst.F34 (by simp [Tst.F34,Fn.mkX]) ?_
 simp only [Tst.F34,Fn.mkX,Tst.b34,yz]
 have e12:∀ y:Rule,y.c.length=12:=fun _=>rfl
 have t12:∀ y:Rule,List.take 12 y.c=y.c:=fun _=>rfl
 have e9:∀ y:At,y.c.length=9:=fun _=>rfl
 have t9:∀ y:At,List.take 9 y.c=y.c:=fun _=>rfl
 have hz:∀ y:At,splice 0 y.c zCells=some y.c:=fun _=>rfl
 have hlen:=hr.2
 rw [List.length_map] at hlen
 simp only [↓vcPre,↓z0,↓reduceIte,vcPost,vcStd,Nat.reduceEqDiff,reduceCtorEq,Nat.reduceAdd,Nat.reduceLeDiff,Int.reduceLT,Int.reduceLE,↓u_setN]
 refine AllocQ.i0 fun p6 h6 => ?_
 simp only [↓vcPre,↓z0,↓reduceIte,vcPost,vcStd,Nat.reduceEqDiff,reduceCtorEq,Nat.reduceAdd,Nat.reduceLeDiff,Int.reduceLT,Int.reduceLE,↓u_setN]
 refine AllocQ.i1 fun p7 h76 h67 h7 => ?_
 simp only [↓vcPre,↓z0,↓reduceIte,vcPost,vcStd,Nat.reduceEqDiff,reduceCtorEq,Nat.reduceAdd,Nat.reduceLeDiff,Int.reduceLT,Int.reduceLE,↓u_setN]
 have sT:=zj (o := .box [.int .u32 q.1,.int .i64 q.2]) (p := .box a.c) h6 h7 h76
 have T7:=Store.set_same (σ.set p6 (.box [.int .u32 q.1,.int .i64 q.2])) p7 (.box a.c)
 have T6:((σ.set p6 (.box [.int .u32 q.1,.int .i64 q.2])).set p7 (.box a.c)) p6=some (.box [.int .u32 q.1,.int .i64 q.2]):=by rw [Store.set_ne _ _ h67];exact Store.set_same _ _ _
 generalize (σ.set p6 (.box [.int .u32 q.1,.int .i64 q.2])).set p7 (.box a.c)=T at sT T7 T6 ⊢
 refine LoopQ.inv (S:=Nat) (fun k=>[(0,lv),(1,.int .u32 x),(6,.ptr p6 0),(7,.ptr p7 0),(9,.int .i64 (k:Int))]) (fun _=>T) (fun k=>k≤rs.length) (fun k=>rs.length+1 - k) 0 rfl (Store.sub_refl _) (by omega) ?_
 rintro k hk
 simp only [hlen,↓vcPre,↓z0,↓reduceIte,vcPost,vcStd,Nat.reduceEqDiff,reduceCtorEq,Nat.reduceAdd,Nat.reduceLeDiff,Int.reduceLT,Int.reduceLE,↓u_setN]
 refine ⟨fun c1 => ?_,fun c1 => ?_⟩
 ·have c1':k<rs.length:=by omega
  have ek:IntKind.i64.wrap ((k:Int)+1)=((k+1:Nat):Int):=by rw [zg (by unfold I64;omega)];omega
  obtain ⟨p,hp,hrd⟩:=hr.at (k:=k) (by simpa using c1')
  have hrd':=hrd T sT 12
  have eg:(rs.map Rule.c)[k]'(by simpa using c1')=rs[k].c:=List.getElem_map ..
  rw [eg] at hrd'
  have tk:takeN 0 12 rs[k].c=some rs[k].c:=rfl
  rw [tk] at hrd'
  generalize rs[k]=r at hrd'
  simp only [hp,hrd',e12,t12,T6,T7,e9,t9,↓vcPre,↓z0,↓reduceIte,vcPost,vcStd,Nat.reduceEqDiff,reduceCtorEq,Nat.reduceAdd,Nat.reduceLeDiff,Int.reduceLT,Int.reduceLE,↓u_setN]
  refine (c27 r q a ha.2.2).q' ?_
  simp only [↓vcPre,↓z0,↓reduceIte,vcPost,vcStd,Nat.reduceEqDiff,reduceCtorEq,Nat.reduceAdd,Nat.reduceLeDiff,Int.reduceLT,Int.reduceLE,↓u_setN]
  refine (c57 r q a ha.2.2).q' ?_
  cases matchF r q a
  all_goals
   simp only [ek,bne_self_eq_false,↓vcPre,↓z0,↓reduceIte,vcPost,vcStd,Nat.reduceEqDiff,reduceCtorEq,Nat.reduceAdd,Nat.reduceLeDiff,Int.reduceLT,Int.reduceLE,↓u_setN]
   refine NextQ.to (k+1) rfl (Store.sub_refl _) ?_ ?_
   ·omega
   ·omega
 ·simp only [T6,T7,e9,t9,↓vcPre,↓z0,↓reduceIte,vcPost,vcStd,Nat.reduceEqDiff,reduceCtorEq,Nat.reduceAdd,Nat.reduceLeDiff,Int.reduceLT,Int.reduceLE,↓u_setN]
  refine (zc2 rs q x a ha ha2 ha3 hl (hr.mono sT)).Q ?_
  rintro v T ⟨rfl,rfl⟩
  simp only [↓vcPre,↓z0,↓reduceIte,vcPost,vcStd,Nat.reduceEqDiff,reduceCtorEq,Nat.reduceAdd,Nat.reduceLeDiff,Int.reduceLT,Int.reduceLE,↓u_setN]
  refine AllocQ.i0 fun p10 h10 => ?_
  simp only [e9,t9,hz,↓vcPre,↓z0,↓reduceIte,vcPost,vcStd,Nat.reduceEqDiff,reduceCtorEq,Nat.reduceAdd,Nat.reduceLeDiff,Int.reduceLT,Int.reduceLE,↓u_setN]
  have sU:Store.sub T ((T.set p10 (.box zCells)).set p10 (.box (applyA rs x q a).1.c)):=z6 (Store.sub_set _ _ _ h10) h10
  have U10:((T.set p10 (.box zCells)).set p10 (.box (applyA rs x q a).1.c)) p10=some (.box (applyA rs x q a).1.c):=Store.set_same _ _ _
  generalize (T.set p10 (.box zCells)).set p10 (.box (applyA rs x q a).1.c)=U at sU U10 ⊢
  have U6:=sU _ _ T6
  have U7:=sU _ _ T7
  have sU2:=Store.sub_trans sT sU
  simp only [U6,U7,e9,t9,↓vcPre,↓z0,↓reduceIte,vcPost,vcStd,Nat.reduceEqDiff,reduceCtorEq,Nat.reduceAdd,Nat.reduceLeDiff,Int.reduceLT,Int.reduceLE,↓u_setN]
  refine (s58 rs q x a ha ha2 ha3 hl (hr.mono sU2)).Q ?_
  rintro v U ⟨rfl,rfl⟩
  rw [z2h]
  have hok:=z3d (rs:=rs) (x:=x) (q:=q) ha ha2 ha3
  generalize hX:applyA rs x q a=X at U10 hok ⊢
  simp only [↓vcPre,↓z0,↓reduceIte,vcPost,vcStd,Nat.reduceEqDiff,reduceCtorEq,Nat.reduceAdd,Nat.reduceLeDiff,Int.reduceLT,Int.reduceLE,↓u_setN]
  refine AllocQ.i0 fun p12 h12 => ?_
  simp only [e9,t9,hz,↓vcPre,↓z0,↓reduceIte,vcPost,vcStd,Nat.reduceEqDiff,reduceCtorEq,Nat.reduceAdd,Nat.reduceLeDiff,Int.reduceLT,Int.reduceLE,↓u_setN]
  have n10:¬ p10=p12:=fun e=>by subst e;rw [U10] at h12;cases h12
  have sV:Store.sub U ((U.set p12 (.box zCells)).set p12 (.box X.1.c)):=z6 (Store.sub_set _ _ _ h12) h12
  have V12:((U.set p12 (.box zCells)).set p12 (.box X.1.c)) p12=some (.box X.1.c):=Store.set_same _ _ _
  generalize (U.set p12 (.box zCells)).set p12 (.box X.1.c)=V at sV V12 ⊢
  have V10:=sV _ _ U10
  have sV2:=Store.sub_trans sU2 sV
  refine (s35 rs hl (hr.mono sV2)).Q ?_
  rintro v V ⟨rfl,rfl⟩
  simp only [↓vcPre,↓z0,↓reduceIte,vcPost,vcStd,Nat.reduceEqDiff,reduceCtorEq,Nat.reduceAdd,Nat.reduceLeDiff,Int.reduceLT,Int.reduceLE,↓u_setN]
  refine (s59 rs hl (hr.mono sV2)).Q ?_
  rintro v V ⟨rfl,rfl⟩
  have hk:=c18 X.1 X.1 hok hok
  rw [show decide (X.1=X.1)=true by simp] at hk
  cases rulesOk rs
  all_goals
   simp only [V10,V12,e9,t9,beq_self_eq_true,↓vcPre,↓z0,↓reduceIte,vcPost,vcStd,Nat.reduceEqDiff,reduceCtorEq,Nat.reduceAdd,Nat.reduceLeDiff,Int.reduceLT,Int.reduceLE,↓u_setN]
   refine hk.Q ?_
   cases X.2
   all_goals
    simp only [beq_self_eq_true,↓vcPre,↓z0,↓reduceIte,vcPost,vcStd,Nat.reduceEqDiff,reduceCtorEq,Nat.reduceAdd,Nat.reduceLeDiff,Int.reduceLT,Int.reduceLE,↓u_setN]
    exact EndQ.to σ (.bool true) rfl sV2 ⟨rfl,rfl⟩
end Go.Am
namespace Go.Am.Ts23
open Go.Proofs Go.Am.B
def t7_84:BC:=z [p 84 (.build [(.int .i64 0),.nils,(.int .u32 0),(.bool false),(.int .u32 0),(.bool false),(.int .u32 0),(.bool false),.nils] []) [],⟨some 85,none,.load (.ld 9 true),[.t 2]⟩,⟨some 86,none,.alloc (.mksl 1 2),[.c (.int .u32 4),.c (.int .u32 4)]⟩,⟨some 87,none,.alloc (.mksl 1 1),[.c (.int .u32 1)]⟩,p 88 (.build [(.int .i64 0),.nils] [(0,1),(1,1)]) [.c (.int .i64 1),.t 87],⟨some 89,none,.alloc (.mksl 2 1),[.t 88]⟩,p 90 (.build [(.int .i64 0),.nils,(.int .u32 0),(.bool false),(.int .u32 0),(.bool false),(.int .u32 0),(.bool false),.nils] [(8,1),(3,1),(4,1),(1,1)]) [.t 86,.c (.bool true),.c (.int .u32 3),.t 89],⟨some 91,none,.alloc (.mksl 9 3),[.t 84,.t 85,.t 90]⟩,u 92 .len 91,j 93 0] [1,2,4,5,91,92,93] (.block 5 (.loop [1,2,4,5,91,92,93] (z [b 94 .lss 93 92] [1,2,4,5,91,92,93,94] (.seq (.cond (.t 94) .skip (.exit 5)) (.seq (.block 6 (z [x 95 9 91 93,⟨some 96,none,.load (.ld 9 true),[.t 95]⟩,⟨some 7,none,.alloc (.alloc [(.int .i64 0),.nils,(.int .u32 0),(.bool false),(.int .u32 0),(.bool false),(.int .u32 0),(.bool false),.nils]),[]⟩,s 9 7 96] [1,2,4,5,7,91,92,93] (.seq (.wk 49 (.ops [⟨some 97,none,.load (.ld 12 true),[.t 5]⟩,⟨some 98,none,.alloc (.mksl 12 1),[.t 97]⟩,⟨some 99,none,.load (.ld 2 true),[.t 1]⟩,⟨some 100,none,.load (.ld 9 true),[.t 7]⟩,g 101 34 [.t 98,.c (.int .u32 9),.t 99,.t 100],u 102 .not 101,m 103 102,⟨some 104,some (103,false),.load (.ld 12 true),[.t 5]⟩,⟨some 105,some (103,false),.pure (.build [(.int .u32 0),(.int .i64 0),(.int .i64 0),(.int .i64 0),(.int .u32 0),(.bool false),(.bool false),(.int .u32 0),(.bool false),(.int .u32 0),(.int .i64 0),(.int .u32 0)] [(3,1),(8,1),(9,1)]),[.c (.int .i64 32),.c (.bool true),.c (.int .u32 1)]⟩,⟨some 106,some (103,false),.alloc (.mksl 12 2),[.t 104,.t 105]⟩,⟨some 107,some (103,false),.load (.ld 2 true),[.t 1]⟩,⟨some 108,some (103,false),.load (.ld 9 true),[.t 7]⟩,⟨some 109,some (103,false),.loud (.call 34),[.t 106,.c (.int .u32 9),.t 107,.t 108]⟩,⟨some 110,some (103,false),.pure (.not),[.t 109]⟩,⟨some 111,none,.pick,[.t 103,.c (.bool true),.t 110]⟩] [1,2,4,5,91,92,93,111])) (.cond (.t 111) (z [k 0 (.bool false)] [0] .ret) .skip)))) (.ops [c 112 .add 93 1,m 93 112] [1,2,4,5,91,92,93]))))))
def b7:BC:=z [k 0 (.bool false)] [] (z [p 8 (.build [(.int .u32 0),(.int .i64 0)] [(0,1),(1,1)]) [.c (.int .u32 167772160),.c (.int .i64 9)],⟨some 1,none,.alloc (.alloc [(.int .u32 0),(.int .i64 0)]),[]⟩,s 2 1 8] [1] (z [p 9 (.build [(.int .i64 0),.nils,(.int .u32 0),(.bool false),(.int .u32 0),(.bool false),(.int .u32 0),(.bool false),.nils] []) [],⟨some 2,none,.alloc (.alloc [(.int .i64 0),.nils,(.int .u32 0),(.bool false),(.int .u32 0),(.bool false),(.int .u32 0),(.bool false),.nils]),[]⟩,s 9 2 9] [1,2] (.seq (z [k 3 (.int .u32 0)] [1,2,3] (.block 0 (.loop [1,2,3] (.seq (z [m 10 3,p 11 (.bin .lss) [.t 10,.c (.int .u32 32)]] [1,2,3,11] (.cond (.t 11) .skip (.exit 0))) (.seq (.block 1 (.ops [f 14 8 2,l 15 1 14,m 16 3,p 17 (.bin .mul) [.c (.int .u32 2),.t 16],⟨some 18,none,.alloc (.mksl 1 1),[.t 17]⟩,⟨some 19,none,.loud (.app 1 4),[.t 15,.t 18]⟩,f 20 8 2,s 1 20 19] [1,2,3])) (.ops [m 12 3,p 13 (.bin .add) [.t 12,.c (.int .u32 1)],m 3 13] [1,2,3])))))) (.seq (.seq (.wk 7 (.ops [j 4 0] [1,2,4])) (.block 2 (.loop [1,2,4] (.seq (z [m 21 4,c 22 .lss 21 18] [1,2,4,22] (.cond (.t 22) .skip (.exit 2))) (.seq (.block 3 (z [p 25 (.build [(.int .u32 0),(.int .i64 0)] [(0,1),(1,1)]) [.c (.int .u32 167772160),.c (.int .i64 8)],p 26 (.build [(.int .u32 0),(.int .i64 0),(.int .i64 0),(.int .i64 0),(.int .u32 0),(.bool false),(.bool false),(.int .u32 0),(.bool false),(.int .u32 0),(.int .i64 0),(.int .u32 0)] [(0,2),(2,1),(3,1)]) [.t 25,.c (.int .i64 8),.c (.int .i64 16)],⟨some 5,none,.alloc (.alloc [(.int .u32 0),(.int .i64 0),(.int .i64 0),(.int .i64 0),(.int .u32 0),(.bool false),(.bool false),(.int .u32 0),(.bool false),(.int .u32 0),(.int .i64 0),(.int .u32 0)]),[]⟩,s 12 5 26] [1,2,4,5] (.seq (z [m 27 4] [1,2,4,5,27] (.block 4 (z [c 29 .eql 27 1,m 28 29] [1,2,4,5,27,28] (.cond (.t 28) (.ops [f 30 0 5,f 31 1 30,⟨none,none,.loud (.st 1),[.t 31,.c (.int .i64 10)]⟩] [1,2,4,5]) (z [c 33 .eql 27 2,m 32 33] [1,2,4,5,27,32] (.cond (.t 32) (.ops [f 34 2 5,⟨none,none,.loud (.st 1),[.t 34,.c (.int .i64 10)]⟩] [1,2,4,5]) (z [c 36 .eql 27 3,m 35 36] [1,2,4,5,27,35] (.cond (.t 35) (.ops [f 37 3 5,⟨none,none,.loud (.st 1),[.t 37,.c (.int .i64 8)]⟩] [1,2,4,5]) (z [c 39 .eql 27 4,m 38 39] [1,2,4,5,27,38] (.cond (.t 38) (.ops [f 40 4 5,⟨none,none,.loud (.st 1),[.t 40,.c (.int .u32 4)]⟩] [1,2,4,5]) (z [c 42 .eql 27 5,m 41 42] [1,2,4,5,27,41] (.cond (.t 41) (.ops [f 43 4 5,⟨none,none,.loud (.st 1),[.t 43,.c (.int .u32 5)]⟩] [1,2,4,5]) (z [c 45 .eql 27 6,m 44 45] [1,2,4,5,27,44] (.cond (.t 44) (.ops [f 46 5 5,⟨none,none,.loud (.st 1),[.t 46,.c (.bool true)]⟩] [1,2,4,5]) (z [c 48 .eql 27 7,m 47 48] [1,2,4,5,27,47] (.cond (.t 47) (.ops [f 49 6 5,⟨none,none,.loud (.st 1),[.t 49,.c (.bool true)]⟩,f 50 7 5,⟨none,none,.loud (.st 1),[.t 50,.c (.int .u32 7)]⟩] [1,2,4,5]) (z [c 52 .eql 27 8,m 51 52] [1,2,4,5,27,51] (.cond (.t 51) (.ops [f 53 8 5,⟨none,none,.loud (.st 1),[.t 53,.c (.bool true)]⟩,f 54 9 5,⟨none,none,.loud (.st 1),[.t 54,.c (.int .u32 7)]⟩] [1,2,4,5]) (z [c 56 .eql 27 9,m 55 56] [1,2,4,5,27,55] (.cond (.t 55) (.ops [f 57 10 5,⟨none,none,.loud (.st 1),[.t 57,.c (.int .i64 3)]⟩] [1,2,4,5]) (z [c 59 .eql 27 10,m 58 59] [1,2,4,5,27,58] (.cond (.t 58) (.ops [f 60 11 5,⟨none,none,.loud (.st 1),[.t 60,.c (.int .u32 4)]⟩] [1,2,4,5]) (z [c 62 .eql 27 11,m 61 62] [1,2,4,5,27,61] (.cond (.t 61) (.ops [f 63 11 5,⟨none,none,.loud (.st 1),[.t 63,.c (.int .u32 5)]⟩] [1,2,4,5]) (z [c 65 .eql 27 12,m 64 65] [1,2,4,5,27,64] (.cond (.t 64) (.ops [f 66 7 5,⟨none,none,.loud (.st 1),[.t 66,.c (.int .u32 1)]⟩] [1,2,4,5]) (z [c 68 .eql 27 13,m 67 68] [1,2,4,5,27,67] (.cond (.t 67) (.ops [f 69 10 5,⟨none,none,.loud (.st 1),[.t 69,.c (.int .i64 11)]⟩] [1,2,4,5]) (z [c 71 .eql 27 14,m 70 71] [1,2,4,5,27,70] (.cond (.t 70) (.ops [f 72 2 5,⟨none,none,.loud (.st 1),[.t 72,.c (.int .i64 (-1))]⟩] [1,2,4,5]) (z [c 74 .eql 27 15,m 73 74] [1,2,4,5,27,73] (.cond (.t 73) (.ops [f 75 3 5,⟨none,none,.loud (.st 1),[.t 75,.c (.int .i64 33)]⟩] [1,2,4,5]) (z [c 77 .eql 27 16,m 76 77] [1,2,4,5,27,76] (.cond (.t 76) (.ops [f 78 0 5,f 79 0 78,⟨none,none,.loud (.st 1),[.t 79,.c (.int .u32 1)]⟩] [1,2,4,5]) (z [c 81 .eql 27 17,m 80 81] [1,2,4,5,80] (.cond (.t 80) (.ops [f 82 2 5,⟨none,none,.loud (.st 1),[.t 82,.c (.int .i64 16)]⟩,f 83 3 5,⟨none,none,.loud (.st 1),[.t 83,.c (.int .i64 8)]⟩] [1,2,4,5]) .skip)))))))))))))))))))))))))))))))))))) t7_84))) (.ops [m 23 4,c 24 .add 23 1,m 4 24] [1,2,4])))))) (z [⟨some 113,none,.alloc (.make 12 [(.int .u32 0),(.int .i64 0),(.int .i64 0),(.int .i64 0),(.int .u32 0),(.bool false),(.bool false),(.int .u32 0),(.bool false),(.int .u32 0),(.int .i64 0),(.int .u32 0)] 72),[.c (.int .i64 16),.c (.int .i64 16)]⟩,g 114 35 [.t 113],m 115 114,⟨some 116,some (115,true),.alloc (.make 12 [(.int .u32 0),(.int .i64 0),(.int .i64 0),(.int .i64 0),(.int .u32 0),(.bool false),(.bool false),(.int .u32 0),(.bool false),(.int .u32 0),(.int .i64 0),(.int .u32 0)] 72),[.c (.int .i64 17),.c (.int .i64 17)]⟩,⟨some 117,some (115,true),.loud (.call 35),[.t 116]⟩,⟨some 118,some (115,true),.pure (.not),[.t 117]⟩,⟨some 119,none,.pick,[.t 115,.t 118,.c (.bool false)]⟩,m 120 119,⟨some 121,some (120,true),.load (.ld 2 true),[.t 1]⟩,⟨some 122,some (120,true),.load (.ld 9 true),[.t 2]⟩,⟨some 123,some (120,true),.loud (.call 34),[.c .nils,.c (.int .u32 1),.t 121,.t 122]⟩,⟨some 124,none,.pick,[.t 120,.t 123,.c (.bool false)]⟩,m 125 124,⟨some 126,some (125,true),.loud (.call 28),[]⟩,⟨some 127,none,.pick,[.t 125,.t 126,.c (.bool false)]⟩,m 0 127] [0] .ret)))))
def F7:Fn Try.prog 7:=Fn.mkW false [7,49] b7 [.t 0] 128 Try.f7 _ Try.func7 (by decide) rfl Try.ntmps7 (by kernel_rfl) (by kernel_rfl)
end Go.Am.Ts23
namespace Go.Am
open Go.Proofs Go.Sort
def g13:At:=⟨0,[⟨1,[1]⟩],0,true,3,false,0,false,[4,4]⟩
def gO (u v:AV):List AV:=[.int .i64 0,u,.int .u32 0,.bool true,.int .u32 3,.bool false,.int .u32 0,.bool false,v]
def ruleM:Rule:=⟨0,0,0,32,0,false,false,0,true,1,0,0⟩
theorem z9x:ImpL zCells zeroAt.c := .cons (.refl rfl) (.cons .nils (.cons (.refl rfl) (.cons (.refl rfl) (.cons (.refl rfl) (.cons (.refl rfl) (.cons (.refl rfl) (.cons (.refl rfl) (.cons .nils .nil))))))))
section
variable {r:Rule} {f:At} {σ:Store} {n rr:Env→Store→Prop} {xx:Nat→Env→Store→Prop} {p1 p2 p5:Nat} {q:Int×Int} {i:Int}
set_option maxHeartbeats 2000000 in
set_option maxRecDepth 20000 in
theorem z5c {T:Store} (hf:f.ok) (hf2:f.path.length≤900000) (hf3:f.cms.length≤900000) (S1:σ p1=some (.box [.int .u32 q.1,.int .i64 q.2])) (S2:σ p2=some (.box f.c)) (T5:T p5=some (.box r.c)) (h5:σ p5=none) (hs:Store.sub σ T)
 (hn:∀ E t',Store.sub σ t'→n ((1,.ptr p1 0)::(2,.ptr p2 0)::(4,.int .i64 i)::E) t'):bwp Try.prog Ts23.t7_84 [(1,.ptr p1 0),(2,.ptr p2 0),(4,.int .i64 i),(5,.ptr p5 0)] T n rr xx:=by
 simp only [Ts23.t7_84,yz,xp]
 have e12:∀ y:Rule,y.c.length=12:=fun _=>rfl
 have t12:∀ y:Rule,List.take 12 y.c=y.c:=fun _=>rfl
 have e9:∀ y:At,y.c.length=9:=fun _=>rfl
 have t9:∀ y:At,List.take 9 y.c=y.c:=fun _=>rfl
 have T1:=hs _ _ S1
 have T2:=hs _ _ S2
 simp only [T2,e9,t9,↓vcPre,↓z0,↓reduceIte,vcPost,vcStd,Nat.reduceEqDiff,reduceCtorEq,Nat.reduceAdd,Nat.reduceLeDiff,Int.reduceLT,Int.reduceLE,↓u_setN]
 have fl:∀ b:At,(List.take 9 b.c)=b.c:=fun _=>rfl
 refine AllocQ.i0 fun p86 h86 => ?_
 have sA:=Store.sub_set T p86 (.arr 1 [[.int .u32 4],[.int .u32 4]]) h86
 have A86:=Store.set_same T p86 (.arr 1 [[.int .u32 4],[.int .u32 4]])
 simp only [↓vcPre,↓z0,↓reduceIte,vcPost,vcStd,Nat.reduceEqDiff,reduceCtorEq,Nat.reduceAdd,Nat.reduceLeDiff,Int.reduceLT,Int.reduceLE,↓u_setN]
 generalize T.set p86 (.arr 1 [[.int .u32 4],[.int .u32 4]])=A at sA A86 ⊢
 refine AllocQ.i0 fun p87 h87 => ?_
 have sB:=Store.sub_set A p87 (.arr 1 [[.int .u32 1]]) h87
 have B87:=Store.set_same A p87 (.arr 1 [[.int .u32 1]])
 simp only [↓vcPre,↓z0,↓reduceIte,vcPost,vcStd,Nat.reduceEqDiff,reduceCtorEq,Nat.reduceAdd,Nat.reduceLeDiff,Int.reduceLT,Int.reduceLE,↓u_setN]
 generalize A.set p87 (.arr 1 [[.int .u32 1]])=B at sB B87 ⊢
 refine AllocQ.i0 fun p89 h89 => ?_
 have sC:=Store.sub_set B p89 (.arr 2 [[.int .i64 1,.os p87 1 0 1]]) h89
 have C89:=Store.set_same B p89 (.arr 2 [[.int .i64 1,.os p87 1 0 1]])
 simp only [↓vcPre,↓z0,↓reduceIte,vcPost,vcStd,Nat.reduceEqDiff,reduceCtorEq,Nat.reduceAdd,Nat.reduceLeDiff,Int.reduceLT,Int.reduceLE,↓u_setN]
 generalize B.set p89 (.arr 2 [[.int .i64 1,.os p87 1 0 1]])=C at sC C89 ⊢
 have q8:splice 8 [AV.os p86 1 0 2] zCells=some [.int .i64 0,.nils,.int .u32 0,.bool false,.int .u32 0,.bool false,.int .u32 0,.bool false,.os p86 1 0 2]:=rfl
 have q3:splice 3 [AV.bool true] [.int .i64 0,.nils,.int .u32 0,.bool false,.int .u32 0,.bool false,.int .u32 0,.bool false,.os p86 1 0 2]=some [.int .i64 0,.nils,.int .u32 0,.bool true,.int .u32 0,.bool false,.int .u32 0,.bool false,.os p86 1 0 2]:=rfl
 have q4:splice 4 [AV.int IntKind.u32 3] [.int .i64 0,.nils,.int .u32 0,.bool true,.int .u32 0,.bool false,.int .u32 0,.bool false,.os p86 1 0 2]=some [.int .i64 0,.nils,.int .u32 0,.bool true,.int .u32 3,.bool false,.int .u32 0,.bool false,.os p86 1 0 2]:=rfl
 have q1:splice 1 [AV.os p89 2 0 1] [.int .i64 0,.nils,.int .u32 0,.bool true,.int .u32 3,.bool false,.int .u32 0,.bool false,.os p86 1 0 2]=some (gO (.os p89 2 0 1) (.os p86 1 0 2)):=rfl
 have qa:alv (.mksl 9 3) [AV.agg zCells,AV.agg f.c,AV.agg (gO (.os p89 2 0 1) (.os p86 1 0 2))]=some (.arr 9 [zCells,f.c,gO (.os p89 2 0 1) (.os p86 1 0 2)],fun id => .os id 9 0 3):=rfl
 simp only [q8,q3,q4,q1,qa,↓vcPre,↓z0,↓reduceIte,vcPost,vcStd,Nat.reduceEqDiff,reduceCtorEq,Nat.reduceAdd,Nat.reduceLeDiff,Int.reduceLT,Int.reduceLE,↓u_setN]
 refine AllocQ.i0 fun p91 h91 => ?_
 simp only [↓vcPre,↓z0,↓reduceIte,vcPost,vcStd,Nat.reduceEqDiff,reduceCtorEq,Nat.reduceAdd,Nat.reduceLeDiff,Int.reduceLT,Int.reduceLE,↓u_setN]
 have sD:=Store.sub_set C p91 (.arr 9 [zCells,f.c,gO (.os p89 2 0 1) (.os p86 1 0 2)]) h91
 have D91:=Store.set_same C p91 (.arr 9 [zCells,f.c,gO (.os p89 2 0 1) (.os p86 1 0 2)])
 generalize C.set p91 (.arr 9 [zCells,f.c,gO (.os p89 2 0 1) (.os p86 1 0 2)])=D at sD D91 ⊢
 have D86:=sD _ _ (sC _ _ (sB _ _ A86))
 have D87:=sD _ _ (sC _ _ B87)
 have D89:=sD _ _ C89
 have sTD:=Store.sub_trans (Store.sub_trans sA sB) (Store.sub_trans sC sD)
 have D5:=sTD _ _ T5
 have sσ:=Store.sub_trans hs sTD
 have σ86:=zh hs h86
 have σ87:=zh (Store.sub_trans hs sA) h87
 have σ89:=zh (Store.sub_trans hs (Store.sub_trans sA sB)) h89
 refine LoopQ.inv (S:=Nat×Store) (fun s=>[(1,.ptr p1 0),(2,.ptr p2 0),(4,.int .i64 i),(5,.ptr p5 0),(91,.os p91 9 0 3),(92,.int .i64 3),(93,.int .i64 (s.1:Int))]) (fun s=>s.2)
  (fun s=>s.1≤3∧Store.sub σ s.2∧(s.1≤2→s.2 p5=some (.box r.c)∧s.2 p91=some (.arr 9 [zCells,f.c,gO (.os p89 2 0 1) (.os p86 1 0 2)])∧s.2 p86=some (.arr 1 [[.int .u32 4],[.int .u32 4]])∧s.2 p87=some (.arr 1 [[.int .u32 1]])∧s.2 p89=some (.arr 2 [[.int .i64 1,.os p87 1 0 1]])))
  (fun s=>4 - s.1) (0,D) rfl (Store.sub_refl _) ⟨by simp only;omega,sσ,fun _=>⟨D5,D91,D86,D87,D89⟩⟩ ?_
 rintro ⟨k,s⟩ ⟨hk,hsub,hst⟩
 simp only at hk hsub hst
 simp only [↓vcPre,↓z0,↓reduceIte,vcPost,vcStd,Nat.reduceEqDiff,reduceCtorEq,Nat.reduceAdd,Nat.reduceLeDiff,Int.reduceLT,Int.reduceLE,↓u_setN]
 refine ⟨fun c1 => ?_,fun c1 => ?_⟩
 ·have ek:IntKind.i64.wrap ((k:Int)+1)=((k+1:Nat):Int):=by rw [zg (by unfold I64;omega)];omega
  obtain ⟨g5,g91,g86,g87,g89⟩:=hst (by omega)
  have s1:=hsub _ _ S1
  have hk3:k=0∨k=1∨k=2:=by omega
  obtain ⟨cells,c0,c9,cs,ct,ck0,ck1,ck2⟩:∃ cells,(∀ h,[zCells,f.c,gO (.os p89 2 0 1) (.os p86 1 0 2)][0+k]'h=cells)∧cells.length=9∧splice 0 cells zCells=some cells∧List.take 9 cells=cells∧(k=0→cells=zCells)∧(k=1→cells=f.c)∧(k=2→cells=gO (.os p89 2 0 1) (.os p86 1 0 2)):=by
   rcases hk3 with rfl | rfl | rfl
   ·exact ⟨zCells,fun _=>rfl,rfl,rfl,rfl,fun _=>rfl,fun h=>by omega,fun h=>by omega⟩
   ·exact ⟨f.c,fun _=>rfl,rfl,rfl,rfl,fun h=>by omega,fun _=>rfl,fun h=>by omega⟩
   ·exact ⟨gO (.os p89 2 0 1) (.os p86 1 0 2),fun _=>rfl,rfl,rfl,rfl,fun h=>by omega,fun h=>by omega,fun _=>rfl⟩
  simp only [g91,c0,c9,ct,↓vcPre,↓z0,↓reduceIte,vcPost,vcStd,Nat.reduceEqDiff,reduceCtorEq,Nat.reduceAdd,Nat.reduceLeDiff,Int.reduceLT,Int.reduceLE,↓u_setN]
  refine ⟨by omega,by simp;omega,?_⟩
  refine AllocQ.i0 fun p7 h7 => ?_
  have z9:zCells.length=9:=rfl
  simp only [c0,ct,cs,z9,c9,↓vcPre,↓z0,↓reduceIte,vcPost,vcStd,Nat.reduceEqDiff,reduceCtorEq,Nat.reduceAdd,Nat.reduceLeDiff,Int.reduceLT,Int.reduceLE,↓u_setN]
  have hσ7:=zh hsub h7
  have sE:Store.sub s ((s.set p7 (.box zCells)).set p7 (.box cells)):=z6 (Store.sub_set _ _ _ h7) h7
  have E7:=Store.set_same (s.set p7 (.box zCells)) p7 (.box cells)
  generalize (s.set p7 (.box zCells)).set p7 (.box cells)=U at sE E7 ⊢
  have U5:=sE _ _ g5
  have U86:=sE _ _ g86
  have U87:=sE _ _ g87
  have U89:=sE _ _ g89
  have sU:=Store.sub_trans hsub sE
  obtain ⟨y,y1,y2,y3,hw⟩:∃ y:At,y.ok∧y.path.length≤900000∧y.cms.length≤900000∧∀ e,WeakE e U (fun e' s'=>e'=e∧s' p7=some (.box y.c)∧s' p5=some (.box r.c)∧Store.sub σ s'∧(k+1≤2→Store.sub s s')):=by
   have n75:¬ p5=p7:=fun e=>by subst e;rw [g5] at h7;cases h7
   rcases hk3 with rfl | rfl | rfl
   ·rw [ck0 rfl] at E7
    exact ⟨zeroAt,z0j,by simp [zeroAt],by simp [zeroAt],fun e=>WeakE.boxImp p7 E7 z9x (WeakE.pure ⟨rfl,Store.set_same _ _ _,by rw [Store.set_ne _ _ n75];exact U5,z6 sU hσ7,fun _=>z6 sE h7⟩)⟩
   ·rw [ck1 rfl] at E7
    exact ⟨f,hf,hf2,hf3,fun e=>WeakE.pure ⟨rfl,E7,U5,sU,fun _=>sE⟩⟩
   ·rw [ck2 rfl] at E7
    have m76:¬ p7=p86:=fun e=>by subst e;rw [g86] at h7;cases h7
    have m77:¬ p7=p87:=fun e=>by subst e;rw [g87] at h7;cases h7
    have m79:¬ p7=p89:=fun e=>by subst e;rw [g89] at h7;cases h7
    have m56:¬ p5=p86:=fun e=>by subst e;rw [g86] at g5;cases g5
    have m57:¬ p5=p87:=fun e=>by subst e;rw [g87] at g5;cases g5
    have m59:¬ p5=p89:=fun e=>by subst e;rw [g89] at g5;cases g5
    have m89:¬ p89=p87:=fun e=>by subst e;rw [g89] at g87;simp at g87
    have m86:¬ p86=p89:=fun e=>by subst e;rw [g89] at g86;simp at g86
    have m67:¬ p86=p87:=fun e=>by subst e;rw [g86] at g87;simp at g87
    refine ⟨g13,⟨by decide,by simp [g13,Seg.ok],by decide⟩,by decide,by decide,fun e => ?_⟩
    refine WeakE.frzArr p89 0 1 U89 rfl rfl U87 m89 (by simp) ?_
    have sV:Store.sub σ ((U.del p87).set p89 (.arr 2 ([[AV.int .i64 1,AV.os p87 1 0 1]].set 0 ([AV.int .i64 1,AV.os p87 1 0 1].set 1 (.sl 1 (([[AV.int .u32 1]].drop 0).take 1)))))):=z6 (sub_del sU σ87) σ89
    have V7:((U.del p87).set p89 (.arr 2 ([[AV.int .i64 1,AV.os p87 1 0 1]].set 0 ([AV.int .i64 1,AV.os p87 1 0 1].set 1 (.sl 1 (([[AV.int .u32 1]].drop 0).take 1)))))) p7=some (.box (gO (.os p89 2 0 1) (.os p86 1 0 2))):=by rw [Store.set_ne _ _ m79,Store.del_ne _ m77];exact E7
    have V5:((U.del p87).set p89 (.arr 2 ([[AV.int .i64 1,AV.os p87 1 0 1]].set 0 ([AV.int .i64 1,AV.os p87 1 0 1].set 1 (.sl 1 (([[AV.int .u32 1]].drop 0).take 1)))))) p5=some (.box r.c):=by rw [Store.set_ne _ _ m59,Store.del_ne _ m57];exact U5
    have V86:((U.del p87).set p89 (.arr 2 ([[AV.int .i64 1,AV.os p87 1 0 1]].set 0 ([AV.int .i64 1,AV.os p87 1 0 1].set 1 (.sl 1 (([[AV.int .u32 1]].drop 0).take 1)))))) p86=some (.arr 1 [[.int .u32 4],[.int .u32 4]]):=by rw [Store.set_ne _ _ m86,Store.del_ne _ m67];exact U86
    have V89:=Store.set_same (U.del p87) p89 (.arr 2 ([[AV.int .i64 1,AV.os p87 1 0 1]].set 0 ([AV.int .i64 1,AV.os p87 1 0 1].set 1 (.sl 1 (([[AV.int .u32 1]].drop 0).take 1)))))
    generalize (U.del p87).set p89 (.arr 2 ([[AV.int .i64 1,AV.os p87 1 0 1]].set 0 ([AV.int .i64 1,AV.os p87 1 0 1].set 1 (.sl 1 (([[AV.int .u32 1]].drop 0).take 1)))))=V at sV V7 V5 V86 V89 ⊢
    refine WeakE.frzBox p7 1 V7 rfl V89 (by simp) ?_
    refine WeakE.frzBox p7 8 (Store.set_same _ _ _) rfl (by rw [Store.set_ne _ _ (fun e=>m76 e.symm),Store.del_ne _ m86];exact V86) (by simp) (WeakE.pure ⟨rfl,Store.set_same _ _ _,?_,?_,fun h=>absurd h (by omega)⟩)
    ·rw [Store.set_ne _ _ n75,Store.del_ne _ m56,Store.set_ne _ _ n75,Store.del_ne _ m59];exact V5
    ·exact z6 (sub_del (z6 (sub_del sV σ89) hσ7) σ86) hσ7
  refine WkQ.of ((hw _).mono fun e' s' ⟨w0,w7,w5,wσ,wk⟩ => ?_)
  subst w0
  have w1:=wσ _ _ S1
  simp only [w5,e12,t12,↓vcPre,↓z0,↓reduceIte,vcPost,vcStd,Nat.reduceEqDiff,reduceCtorEq,Nat.reduceAdd,Nat.reduceLeDiff,Int.reduceLT,Int.reduceLE,↓u_setN]
  refine AllocQ.i0 fun p98 h98 => ?_
  have sA:=Store.sub_set s' p98 (.arr 12 [r.c]) h98
  have A98:=Store.set_same s' p98 (.arr 12 [r.c])
  simp only [t12,↓vcPre,↓z0,↓reduceIte,vcPost,vcStd,Nat.reduceEqDiff,reduceCtorEq,Nat.reduceAdd,Nat.reduceLeDiff,Int.reduceLT,Int.reduceLE,↓u_setN]
  generalize s'.set p98 (.arr 12 [r.c])=F at sA A98 ⊢
  have F1:=sA _ _ w1
  have F5:=sA _ _ w5
  have F7:=sA _ _ w7
  simp only [F1,F7,e9,t9,↓vcPre,↓z0,↓reduceIte,vcPost,vcStd,Nat.reduceEqDiff,reduceCtorEq,Nat.reduceAdd,Nat.reduceLeDiff,Int.reduceLT,Int.reduceLE,↓u_setN]
  refine (s34 [r] q 9 y y1 y2 y3 (by simp) (Rd.os A98)).Q ?_
  rintro v F ⟨rfl,rfl⟩
  have spM:splice 3 [.int .i64 32] zR12=some ({ ruleM with sm:=false,md:=0 }:Rule).c:=rfl
  have spM2:splice 8 [.bool true] ({ ruleM with sm:=false,md:=0 }:Rule).c=some ({ ruleM with md:=0 }:Rule).c:=rfl
  have spM3:splice 9 [.int .u32 1] ({ ruleM with md:=0 }:Rule).c=some ruleM.c:=rfl
  simp only [F5,e12,t12,spM,spM2,spM3,↓vcPre,↓z0,↓reduceIte,vcPost,vcStd,Nat.reduceEqDiff,reduceCtorEq,Nat.reduceAdd,Nat.reduceLeDiff,Int.reduceLT,Int.reduceLE,↓u_setN]
  refine AllocQ.i0 fun p106 h106 => ?_
  have sB:=Store.sub_set F p106 (.arr 12 [r.c,ruleM.c]) h106
  have B106:=Store.set_same F p106 (.arr 12 [r.c,ruleM.c])
  simp only [t12,↓vcPre,↓z0,↓reduceIte,vcPost,vcStd,Nat.reduceEqDiff,reduceCtorEq,Nat.reduceAdd,Nat.reduceLeDiff,Int.reduceLT,Int.reduceLE,↓u_setN]
  generalize F.set p106 (.arr 12 [r.c,ruleM.c])=H at sB B106 ⊢
  have H1:=sB _ _ F1
  have H7:=sB _ _ F7
  simp only [H1,H7,e9,t9,↓vcPre,↓z0,↓reduceIte,vcPost,vcStd,Nat.reduceEqDiff,reduceCtorEq,Nat.reduceAdd,Nat.reduceLeDiff,Int.reduceLT,Int.reduceLE,↓u_setN]
  refine (s34 [r,ruleM] q 9 y y1 y2 y3 (by simp) (Rd.os B106)).Q ?_
  rintro v H ⟨rfl,rfl⟩
  simp only [ek,↓vcPre,↓z0,↓reduceIte,vcPost,vcStd,Nat.reduceEqDiff,reduceCtorEq,Nat.reduceAdd,Nat.reduceLeDiff,Int.reduceLT,Int.reduceLE,↓u_setN]
  have sF:=Store.sub_trans sA sB
  rcases Nat.lt_or_ge 1 k with h | h
  ·refine NextQ.to (k+1,H) rfl (Store.sub_refl _) (by simp only;omega) ⟨by simp only;omega,Store.sub_trans wσ sF,fun h=>by simp only at h;omega⟩
  ·refine NextQ.to (k+1,s) rfl (Store.sub_trans (wk (by omega)) sF) (by simp only;omega) ⟨by simp only;omega,hsub,fun _=>⟨g5,g91,g86,g87,g89⟩⟩
 ·exact hn _ _ hsub
end
def zV (v:AV):List AV:=[.int .i64 0,.nils,.int .u32 0,.bool false,.int .u32 0,.bool false,.int .u32 0,.bool false,v]
def fullC (n:Nat):List Int:=(List.range n).map fun (j:Nat)=>2*(j:Int)
def fullAt:At:={ zeroAt with cms:=fullC 32 }
theorem z8a (n:Nat):(List.replicate n (⟨0,0,0,0,0,false,false,0,false,0,0,0⟩:Rule)).all ruleOk=true:=by
 rw [List.all_eq_true]
 intro x hx
 rw [List.eq_of_mem_replicate hx]
 decide+kernel
set_option maxHeartbeats 4000000 in
set_option maxRecDepth 20000 in
theorem z88:Pur Try.prog 7 [] (.bool true):=by
 refine zo Ts23.F7 (by simp [Ts23.F7,Fn.mkW]) fun σ => ?_
 simp only [Ts23.F7,Fn.mkW,Ts23.b7,yz,xp]
 have e12:∀ y:Rule,y.c.length=12:=fun _=>rfl
 have t12:∀ y:Rule,List.take 12 y.c=y.c:=fun _=>rfl
 have e9:∀ y:At,y.c.length=9:=fun _=>rfl
 have t9:∀ y:At,List.take 9 y.c=y.c:=fun _=>rfl
 have o9:∀ v,(zV v).length=9:=fun _=>rfl
 have hzz:splice 0 zCells zCells=some (zV .nils):=rfl
 have z9:zCells.length=9:=rfl
 have o8:∀ v,List.take 1 (List.drop 8 (zV v))=[v]:=fun _=>rfl
 have s8:∀ v w,splice 8 [w] (zV v)=some (zV w):=fun _ _=>rfl
 simp only [↓vcPre,↓z0,↓reduceIte,vcPost,vcStd,Nat.reduceEqDiff,reduceCtorEq,Nat.reduceAdd,Nat.reduceLeDiff,Int.reduceLT,Int.reduceLE,↓u_setN]
 refine AllocQ.i0 fun p1 h1 => ?_
 simp only [↓vcPre,↓z0,↓reduceIte,vcPost,vcStd,Nat.reduceEqDiff,reduceCtorEq,Nat.reduceAdd,Nat.reduceLeDiff,Int.reduceLT,Int.reduceLE,↓u_setN]
 refine AllocQ.i0 fun p2 h2 => ?_
 simp only [hzz,z9,↓vcPre,↓z0,↓reduceIte,vcPost,vcStd,Nat.reduceEqDiff,reduceCtorEq,Nat.reduceAdd,Nat.reduceLeDiff,Int.reduceLT,Int.reduceLE,↓u_setN]
 have n12:¬ p1=p2:=fun e=>by subst e;rw [Store.set_same] at h2;cases h2
 have hσ2:σ p2=none:=by
  rw [Store.set_ne _ _ (fun e=>n12 e.symm),Store.set_ne _ _ (fun e=>n12 e.symm)] at h2;exact h2
 have sA:Store.sub σ ((((σ.set p1 (.box [AV.int .u32 0,AV.int .i64 0])).set p1 (.box [AV.int .u32 167772160,AV.int .i64 9])).set p2 (.box zCells)).set p2 (.box (zV .nils))):=z6 (z6 (z6 (Store.sub_set _ _ _ h1) h1) hσ2) hσ2
 have A1:((((σ.set p1 (.box [AV.int .u32 0,AV.int .i64 0])).set p1 (.box [AV.int .u32 167772160,AV.int .i64 9])).set p2 (.box zCells)).set p2 (.box (zV .nils))) p1=some (.box [AV.int .u32 167772160,AV.int .i64 9]):=by rw [Store.set_ne _ _ n12,Store.set_ne _ _ n12,Store.set_same]
 have A2:=Store.set_same (((σ.set p1 (.box [AV.int .u32 0,AV.int .i64 0])).set p1 (.box [AV.int .u32 167772160,AV.int .i64 9])).set p2 (.box zCells)) p2 (.box (zV .nils))
 generalize (((σ.set p1 (.box [AV.int .u32 0,AV.int .i64 0])).set p1 (.box [AV.int .u32 167772160,AV.int .i64 9])).set p2 (.box zCells)).set p2 (.box (zV .nils))=A at sA A1 A2 ⊢
 refine LoopQ.inv (S:=Nat×AV×Store) (fun s=>[(1,.ptr p1 0),(2,.ptr p2 0),(3,.int .u32 (s.1:Int))]) (fun s=>s.2.2)
  (fun s=>s.1≤32∧Store.sub σ s.2.2∧s.2.2 p1=some (.box [AV.int .u32 167772160,AV.int .i64 9])∧s.2.2 p2=some (.box (zV s.2.1))∧Own 1 σ ((fullC s.1).map cU) s.2.1 s.2.2) (fun s=>33 - s.1) (0,.nils,A) rfl (Store.sub_refl _) ⟨by simp only;omega,sA,A1,A2,Own.nil⟩ ?_
 rintro ⟨k,v,s⟩ ⟨hk,hsub,k1,k2,ho⟩
 simp only at hk hsub k1 k2 ho
 obtain ⟨hv1,hv2⟩:=ho.cell
 simp only [↓vcPre,↓z0,↓reduceIte,vcPost,vcStd,Nat.reduceEqDiff,reduceCtorEq,Nat.reduceAdd,Nat.reduceLeDiff,Int.reduceLT,Int.reduceLE,↓u_setN]
 refine ⟨fun c1 => ?_,fun c1 => ?_⟩
 ·have em:IntKind.u32.wrap (2*(k:Int))=2*(k:Int):=by simp [IntKind.wrap,IntKind.bits,IntKind.signed];omega
  have ek:IntKind.u32.wrap ((k:Int)+1)=((k+1:Nat):Int):=by simp [IntKind.wrap,IntKind.bits,IntKind.signed];omega
  simp only [k2,o8,o9,em,↓vcPre,↓z0,↓reduceIte,vcPost,vcStd,Nat.reduceEqDiff,reduceCtorEq,Nat.reduceAdd,Nat.reduceLeDiff,Int.reduceLT,Int.reduceLE,↓u_setN]
  refine AllocQ.i0 fun d hd => ?_
  have sd:=Store.sub_set s d (.arr 1 [[.int .u32 (2*(k:Int))]]) hd
  simp only [em,↓vcPre,↓z0,↓reduceIte,vcPost,vcStd,Nat.reduceEqDiff,reduceCtorEq,Nat.reduceAdd,Nat.reduceLeDiff,Int.reduceLT,Int.reduceLE,↓u_setN]
  refine Own.appP (τ:=σ) (ys:=[cU (2*(k:Int))]) (Store.sub_trans hsub sd) (ho.mono sd) (zm (Store.set_same _ _ _) rfl) (by simp [fullC];omega) fun v' s' q1 q2 q3 => ?_
  have m1:=q3 _ _ (sd _ _ k1) (fun M e=>by cases e)
  have m2:=q3 _ _ (sd _ _ k2) (fun M e=>by cases e)
  obtain ⟨hw1,hw2⟩:=q2.cell
  simp only [m2,hw1,hw2,o9,s8,ek,↓vcPre,↓z0,↓reduceIte,vcPost,vcStd,Nat.reduceEqDiff,reduceCtorEq,Nat.reduceAdd,Nat.reduceLeDiff,Int.reduceLT,Int.reduceLE,↓u_setN]
  refine NextQ.to (k+1,v',s'.set p2 (.box (zV v'))) rfl (Store.sub_refl _) (by simp only;omega) ⟨by simp only;omega,z6 q1 hσ2,by simp only;rw [Store.set_ne _ _ n12];exact m1,Store.set_same _ _ _,?_⟩
  have ef:(fullC (k+1)).map cU=(fullC k).map cU++[cU (2*(k:Int))]:=by simp [fullC,List.range_succ]
  simp only
  rw [ef]
  exact q2.setId m2 (fun M e=>by cases e)
 ·have hk32:k=32:=by omega
  subst hk32
  have hzi:∀ L:List Int,ImpL (zV (.sl 1 (L.map cU))) ({ zeroAt with cms:=L }:At).c:=fun L => .cons (.refl rfl) (.cons .nils (.cons (.refl rfl) (.cons (.refl rfl) (.cons (.refl rfl) (.cons (.refl rfl) (.cons (.refl rfl) (.cons (.refl rfl) (.cons (.refl rfl) .nil))))))))
  refine WkQ.of (WeakE.ownBox p2 8 k2 rfl ho hsub hσ2 fun σ' w1 w2 w3=>WeakE.boxImp p2 w2 (hzi _) (WeakE.pure ?_))
  have hb1:(σ'.set p2 (.box fullAt.c)) p1=some (.box [AV.int .u32 167772160,AV.int .i64 9]):=by
   rw [Store.set_ne _ _ n12]
   refine w3 p1 _ k1 n12 fun n e => ?_
   subst e
   rcases ho with ⟨_,h⟩ | ⟨g,h,hg,hgs⟩
   ·cases h
   ·simp only [AV.os.injEq] at h
    rw [←h.1,k1] at hgs;cases hgs
  have hb2:=Store.set_same σ' p2 (.box fullAt.c)
  have hbs:Store.sub σ (σ'.set p2 (.box fullAt.c)):=z6 w1 hσ2
  have fok:fullAt.ok:=⟨by simp [fullAt,zeroAt],by simp [fullAt,zeroAt],by simp [fullAt,fullC]⟩
  show bwp _ _ _ (σ'.set p2 (.box fullAt.c)) _ _ _
  generalize σ'.set p2 (.box fullAt.c)=B at hb1 hb2 hbs ⊢
  simp only [↓vcPre,↓z0,↓reduceIte,vcPost,vcStd,Nat.reduceEqDiff,reduceCtorEq,Nat.reduceAdd,Nat.reduceLeDiff,Int.reduceLT,Int.reduceLE,↓u_setN]
  obtain ⟨r0,hr0⟩:∃ r0:Rule,r0=⟨167772160,8,8,16,0,false,false,0,false,0,0,0⟩:=⟨_,rfl⟩
  have b0:splice 0 [.int .u32 167772160,.int .i64 8] zR12=some (⟨167772160,8,0,0,0,false,false,0,false,0,0,0⟩:Rule).c:=rfl
  have b2:splice 2 [.int .i64 8] (⟨167772160,8,0,0,0,false,false,0,false,0,0,0⟩:Rule).c=some (⟨167772160,8,8,0,0,false,false,0,false,0,0,0⟩:Rule).c:=rfl
  have b3:splice 3 [.int .i64 16] (⟨167772160,8,8,0,0,false,false,0,false,0,0,0⟩:Rule).c=some r0.c:=by rw [hr0];rfl
  have sR:∀ y:Rule,splice 0 y.c zR12=some y.c:=fun _=>rfl
  have zr:zR12.length=12:=rfl
  have a0:∀ (y:Rule) v,splice 0 [.int .u32 v] y.c=some ({ y with ad:=v }:Rule).c:=fun _ _=>rfl
  have a1:∀ (y:Rule) v,splice 1 [.int .i64 v] y.c=some ({ y with ln:=v }:Rule).c:=fun _ _=>rfl
  have a2:∀ (y:Rule) v,splice 2 [.int .i64 v] y.c=some ({ y with fr:=v }:Rule).c:=fun _ _=>rfl
  have a3:∀ (y:Rule) v,splice 3 [.int .i64 v] y.c=some ({ y with tl:=v }:Rule).c:=fun _ _=>rfl
  have a4:∀ (y:Rule) v,splice 4 [.int .u32 v] y.c=some ({ y with cm:=v }:Rule).c:=fun _ _=>rfl
  have a5:∀ (y:Rule) v,splice 5 [.bool v] y.c=some ({ y with rj:=v }:Rule).c:=fun _ _=>rfl
  have a6:∀ (y:Rule) v,splice 6 [.bool v] y.c=some ({ y with sp:=v }:Rule).c:=fun _ _=>rfl
  have a7:∀ (y:Rule) v,splice 7 [.int .u32 v] y.c=some ({ y with pf:=v }:Rule).c:=fun _ _=>rfl
  have a8:∀ (y:Rule) v,splice 8 [.bool v] y.c=some ({ y with sm:=v }:Rule).c:=fun _ _=>rfl
  have a9:∀ (y:Rule) v,splice 9 [.int .u32 v] y.c=some ({ y with md:=v }:Rule).c:=fun _ _=>rfl
  have a10:∀ (y:Rule) v,splice 10 [.int .i64 v] y.c=some ({ y with pp:=v }:Rule).c:=fun _ _=>rfl
  have a11:∀ (y:Rule) v,splice 11 [.int .u32 v] y.c=some ({ y with ac:=v }:Rule).c:=fun _ _=>rfl
  clear hr0
  refine LoopQ.inv (S:=Nat) (fun k=>[(1,.ptr p1 0),(2,.ptr p2 0),(4,.int .i64 (k:Int))]) (fun _=>B) (fun k=>k≤18) (fun k=>19 - k) 0 rfl (Store.sub_refl _) (by omega) ?_
  rintro k hk
  simp only [↓vcPre,↓z0,↓reduceIte,vcPost,vcStd,Nat.reduceEqDiff,reduceCtorEq,Nat.reduceAdd,Nat.reduceLeDiff,Int.reduceLT,Int.reduceLE,↓u_setN]
  refine ⟨fun c2 => ?_,fun c2 => ?_⟩
  ·have ek:IntKind.i64.wrap ((k:Int)+1)=((k+1:Nat):Int):=by rw [zg (by unfold I64;omega)];omega
   simp only [b0,b2,b3,↓vcPre,↓z0,↓reduceIte,vcPost,vcStd,Nat.reduceEqDiff,reduceCtorEq,Nat.reduceAdd,Nat.reduceLeDiff,Int.reduceLT,Int.reduceLE,↓u_setN]
   refine AllocQ.i0 fun p5 h5 => ?_
   have sC:Store.sub B ((B.set p5 (.box zR12)).set p5 (.box r0.c)):=z6 (Store.sub_set _ _ _ h5) h5
   have C5:=Store.set_same (B.set p5 (.box zR12)) p5 (.box r0.c)
   simp only [sR,zr,e12,↓vcPre,↓z0,↓reduceIte,vcPost,vcStd,Nat.reduceEqDiff,reduceCtorEq,Nat.reduceAdd,Nat.reduceLeDiff,Int.reduceLT,Int.reduceLE,↓u_setN]
   generalize (B.set p5 (.box zR12)).set p5 (.box r0.c)=C at sC C5 ⊢
   simp only [C5,e12,a0,a1,a2,a3,a4,a5,a6,a7,a8,a9,a10,a11,↓vcPre,↓z0,↓reduceIte,vcPost,vcStd,Nat.reduceEqDiff,reduceCtorEq,Nat.reduceAdd,Nat.reduceLeDiff,Int.reduceLT,Int.reduceLE,↓u_setN]
   repeat' (with_reducible refine And.intro (fun _ => ?_) (fun _ => ?_))
   all_goals
    refine z5c (q:=(167772160,9)) (f:=fullAt) (σ:=B) fok (by decide) (by decide) hb1 hb2 (by first | exact C5 | exact Store.set_same _ _ _) h5 (by first | exact sC | exact z6 sC h5 | exact z6 (z6 sC h5) h5) fun E t' h => ?_
    simp only [ek,↓vcPre,↓z0,↓reduceIte,vcPost,vcStd,Nat.reduceEqDiff,reduceCtorEq,Nat.reduceAdd,Nat.reduceLeDiff,Int.reduceLT,Int.reduceLE,↓u_setN]
    exact NextQ.to (k+1) rfl h (by omega) (by omega)
  ·refine ⟨by decide,AllocQ.i0 fun g hg => ?_⟩
   have er:∀ m,List.replicate m zR12=(List.replicate m (⟨0,0,0,0,0,false,false,0,false,0,0,0⟩:Rule)).map Rule.c:=fun m=>by rw [List.map_replicate];rfl
   have e16:Int.toNat 16=16:=rfl
   have e17:Int.toNat 17=17:=rfl
   simp only [e16,↓vcPre,↓z0,↓reduceIte,vcPost,vcStd,Nat.reduceEqDiff,reduceCtorEq,Nat.reduceAdd,Nat.reduceLeDiff,Int.reduceLT,Int.reduceLE,↓u_setN]
   have sD:=Store.sub_set B g (.arr 12 (List.replicate 16 zR12)) hg
   have Dg:=Store.set_same B g (.arr 12 (List.replicate 16 zR12))
   generalize B.set g (.arr 12 (List.replicate 16 zR12))=D at sD Dg ⊢
   rw [er 16] at Dg
   have hr16:=s35 (σ:=D) (List.replicate 16 (⟨0,0,0,0,0,false,false,0,false,0,0,0⟩:Rule)) (by simp) (lv := .os g 12 0 16) (by simpa using Rd.os Dg)
   rw [show rulesOk (List.replicate 16 (⟨0,0,0,0,0,false,false,0,false,0,0,0⟩:Rule))=true by unfold rulesOk;rw [z8a];simp] at hr16
   refine hr16.Q ?_
   rintro v D ⟨rfl,rfl⟩
   simp only [↓vcPre,↓z0,↓reduceIte,vcPost,vcStd,Nat.reduceEqDiff,reduceCtorEq,Nat.reduceAdd,Nat.reduceLeDiff,Int.reduceLT,Int.reduceLE,↓u_setN]
   refine ⟨by decide,AllocQ.i0 fun g2 hg2 => ?_⟩
   simp only [e17,↓vcPre,↓z0,↓reduceIte,vcPost,vcStd,Nat.reduceEqDiff,reduceCtorEq,Nat.reduceAdd,Nat.reduceLeDiff,Int.reduceLT,Int.reduceLE,↓u_setN]
   have sE:=Store.sub_set D g2 (.arr 12 (List.replicate 17 zR12)) hg2
   have Eg:=Store.set_same D g2 (.arr 12 (List.replicate 17 zR12))
   generalize D.set g2 (.arr 12 (List.replicate 17 zR12))=E at sE Eg ⊢
   rw [er 17] at Eg
   have hr17:=s35 (σ:=E) (List.replicate 17 (⟨0,0,0,0,0,false,false,0,false,0,0,0⟩:Rule)) (by simp) (lv := .os g2 12 0 17) (by simpa using Rd.os Eg)
   rw [show rulesOk (List.replicate 17 (⟨0,0,0,0,0,false,false,0,false,0,0,0⟩:Rule))=false by unfold rulesOk;simp] at hr17
   refine hr17.Q ?_
   rintro v E ⟨rfl,rfl⟩
   have E1:=sE _ _ (sD _ _ hb1)
   have E2:=sE _ _ (sD _ _ hb2)
   simp only [E1,E2,e9,t9,↓vcPre,↓z0,↓reduceIte,vcPost,vcStd,Nat.reduceEqDiff,reduceCtorEq,Nat.reduceAdd,Nat.reduceLeDiff,Int.reduceLT,Int.reduceLE,↓u_setN]
   refine (s34 (σ:=E) [] (167772160,9) 1 fullAt fok (by decide) (by decide) (by simp) Rd.nils).Q ?_
   rintro v E ⟨rfl,rfl⟩
   simp only [↓vcPre,↓z0,↓reduceIte,vcPost,vcStd,Nat.reduceEqDiff,reduceCtorEq,Nat.reduceAdd,Nat.reduceLeDiff,Int.reduceLT,Int.reduceLE,↓u_setN]
   refine c28.Q ?_
   simp only [↓vcPre,↓z0,↓reduceIte,vcPost,vcStd,Nat.reduceEqDiff,reduceCtorEq,Nat.reduceAdd,Nat.reduceLeDiff,Int.reduceLT,Int.reduceLE,↓u_setN]
   exact Store.sub_trans hbs (Store.sub_trans sD sE)
end Go.Am
