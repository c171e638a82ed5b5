/- A part of the proof: a logic for calls over plain values, and the functions that the law reaches, each walked once. -/
import Derived.Test.YtplkahhkogncjaaGreatQA15
set_option linter.unusedVariables false
set_option linter.unusedSimpArgs false
set_option linter.unusedSectionVars false
namespace Go.Am
open Go.Proofs Go.Sort
def rcommA (r:Rule) (b:At):At:=if r.ac≠0∧(putL b.cms r.ac).length≤32 then { b with cms:=putL b.cms r.ac } else b
def rdoneA (r:Rule) (x:Int) (c:At):At:=rcommA r (pathA r x (medA r (prfA r c)))
def rapplyA (rs:List Rule) (x:Int) (q:Int×Int) (a:At):At×Bool:=match rs.find? (fun r=>matchF r q (canonA a)) with
 | none=>(canonA a,true)
 | some r=>if r.rj then (zeroAt,false) else (rdoneA r x (canonA a),true)
section
variable {r:Rule} {σ:Store} {n rr:Env→Store→Prop} {xx:Nat→Env→Store→Prop} {p7 p8 p11:Nat} {as1:Int}
theorem z2z {T:Store} (b:At) (hb:b.ok) (hb2:b.path.length≤900000) (hb3:b.cms.length≤900000) (h78:¬ p8=p7) (h711:¬ p11=p7) (T7:T p7=some (.box b.c)) (T8:T p8=some (.box zCells)) (T11:T p11=some (.box r.c)) (hs:Store.sub σ T) (h7:σ p7=none) (h8:σ p8=none) (E:List (Nat×AV))
 (hr:∀ t',Store.sub σ t'→t' p8=some (.box (rcommA r (pathA r as1 b)).c)→rr [(8,.ptr p8 0),(9,.bool true)] t'):bwp Tryz.prog Ts21.t86_44 ((1,.int .u32 as1)::(7,.ptr p7 0)::(8,.ptr p8 0)::(11,.ptr p11 0)::E) T n rr xx:=by
 simp only [Ts21.t86_44]
 have e12:∀ y:Rule,y.c.length=12:=fun _=>rfl
 have e9:∀ y:At,y.c.length=9:=fun _=>rfl
 have t9:∀ y:At,List.take 9 y.c=y.c:=fun _=>rfl
 have hz:∀ y:At,splice 0 y.c zCells=some y.c:=fun _=>rfl
 have z9:zCells.length=9:=rfl
 have b1:∀ b:At,List.take 1 (List.drop 1 b.c)=[.sl 2 (b.path.map Seg.c)]:=fun _=>rfl
 have b8:∀ b:At,List.take 1 (List.drop 8 b.c)=[.sl 1 (b.cms.map cU)]:=fun _=>rfl
 have r10:List.take 1 (List.drop 10 r.c)=[.int .i64 r.pp]:=rfl
 have r11:List.take 1 (List.drop 11 r.c)=[.int .u32 r.ac]:=rfl
 have s1:splice 1 [AV.sl 2 ((preA as1 (preN r.pp) b.path).map Seg.c)] b.c=some (pathA r as1 b).c:=rfl
 simp only [T7,T11,b1,r10,e12,e9,↓vcPre,↓z0,↓reduceIte,vcPost,vcStd,Nat.reduceEqDiff,reduceCtorEq,Nat.reduceAdd,Nat.reduceLeDiff,Int.reduceLT,Int.reduceLE,↓u_setN]
 refine (c85 b.path hb.1 hb.2.1 as1 r.pp).Q ?_
 simp only [T7,s1,e9,↓vcPre,↓z0,↓reduceIte,vcPost,vcStd,Nat.reduceEqDiff,reduceCtorEq,Nat.reduceAdd,Nat.reduceLeDiff,Int.reduceLT,Int.reduceLE,↓u_setN]
 have U7:=Store.set_same T p7 (.box (pathA r as1 b).c)
 have U8:=(Store.set_ne T (.box (pathA r as1 b).c) h78).trans T8
 have U11:=(Store.set_ne T (.box (pathA r as1 b).c) h711).trans T11
 have sU:Store.sub σ (T.set p7 (.box (pathA r as1 b).c)):=za hs h7
 have hc3:(pathA r as1 b).cms.length≤900000:=hb3
 generalize T.set p7 (.box (pathA r as1 b).c)=U at U7 U8 U11 sU ⊢
 generalize pathA r as1 b=c at U7 hr hc3
 simp only [U7,U11,b8,r11,e12,e9,↓vcPre,↓z0,↓reduceIte,vcPost,vcStd,Nat.reduceEqDiff,reduceCtorEq,Nat.reduceAdd,Nat.reduceLeDiff,Int.reduceLT,Int.reduceLE,↓u_setN]
 have hc1:¬ (r.ac≠0∧(putL c.cms r.ac).length≤32)→rcommA r c=c:=fun h=>by unfold rcommA;rw [if_neg h]
 have hc2:(r.ac≠0∧(putL c.cms r.ac).length≤32)→rcommA r c={ c with cms:=putL c.cms r.ac }:=fun h=>by unfold rcommA;rw [if_pos h]
 refine ⟨fun c1 => ?_,fun c1 => ?_⟩
 ·refine (zbo c.cms r.ac (by omega)).Q ?_
  simp only [↓vcPre,↓z0,↓reduceIte,vcPost,vcStd,Nat.reduceEqDiff,reduceCtorEq,Nat.reduceAdd,Nat.reduceLeDiff,Int.reduceLT,Int.reduceLE,↓u_setN]
  refine ⟨fun c2 => ?_,fun c2 => ?_⟩
  ·rw [hc2 ⟨c1,by omega⟩] at hr
   have s8:splice 8 [AV.sl 1 ((putL c.cms r.ac).map cU)] c.c=some ({ c with cms:=putL c.cms r.ac }:At).c:=rfl
   simp only [U7,U11,b8,r11,e12,e9,↓vcPre,↓z0,↓reduceIte,vcPost,vcStd,Nat.reduceEqDiff,reduceCtorEq,Nat.reduceAdd,Nat.reduceLeDiff,Int.reduceLT,Int.reduceLE,↓u_setN]
   refine (zbo c.cms r.ac (by omega)).Q ?_
   simp only [U7,s8,e9,t9,h78,U8,hz,↓vcPre,↓z0,↓reduceIte,vcPost,vcStd,Nat.reduceEqDiff,reduceCtorEq,Nat.reduceAdd,Nat.reduceLeDiff,Int.reduceLT,Int.reduceLE,↓u_setN]
   exact hr _ (za (za sU h7) h8) (Store.set_same _ _ _)
  ·rw [hc1 (by omega)] at hr
   simp only [U7,U8,e9,t9,hz,↓vcPre,↓z0,↓reduceIte,vcPost,vcStd,Nat.reduceEqDiff,reduceCtorEq,Nat.reduceAdd,Nat.reduceLeDiff,Int.reduceLT,Int.reduceLE,↓u_setN]
   exact hr _ (za sU h8) (Store.set_same _ _ _)
 ·rw [hc1 (by omega)] at hr
  simp only [U7,U8,e9,t9,hz,↓vcPre,↓z0,↓reduceIte,vcPost,vcStd,Nat.reduceEqDiff,reduceCtorEq,Nat.reduceAdd,Nat.reduceLeDiff,Int.reduceLT,Int.reduceLE,↓u_setN]
  exact hr _ (za sU h8) (Store.set_same _ _ _)
theorem z2y {T:Store} (b:At) (hb:b.ok) (hb2:b.path.length≤900000) (hb3:b.cms.length≤900000) (h78:¬ p8=p7) (h711:¬ p11=p7) (T7:T p7=some (.box b.c)) (T8:T p8=some (.box zCells)) (T11:T p11=some (.box r.c)) (hs:Store.sub σ T) (h7:σ p7=none) (h8:σ p8=none) (E:List (Nat×AV))
 (hr:∀ t',Store.sub σ t'→t' p8=some (.box (rcommA r (pathA r as1 (medA r b))).c)→rr [(8,.ptr p8 0),(9,.bool true)] t'):bwp Tryz.prog Ts21.t86_38 ((1,.int .u32 as1)::(7,.ptr p7 0)::(8,.ptr p8 0)::(11,.ptr p11 0)::E) T n rr xx:=by
 simp only [Ts21.t86_38]
 have e12:∀ y:Rule,y.c.length=12:=fun _=>rfl
 have e9:∀ y:At,y.c.length=9:=fun _=>rfl
 have r8:List.take 1 (List.drop 8 r.c)=[.bool r.sm]:=rfl
 have r9:List.take 1 (List.drop 9 r.c)=[.int .u32 r.md]:=rfl
 have s3:splice 3 [.bool true] b.c=some ({ b with hm:=true }:At).c:=rfl
 have s4:splice 4 [.int .u32 r.md] ({ b with hm:=true }:At).c=some ({ b with hm:=true,med:=r.md }:At).c:=rfl
 unfold medA at hr
 simp only [T11,r8,e12,↓vcPre,↓z0,↓reduceIte,vcPost,vcStd,Nat.reduceEqDiff,reduceCtorEq,Nat.reduceAdd,Nat.reduceLeDiff,Int.reduceLT,Int.reduceLE,↓u_setN]
 cases h:r.sm
 ·rw [h] at hr
  simp only [Bool.false_eq_true,if_false] at hr
  simp only [↓vcPre,↓z0,↓reduceIte,vcPost,vcStd,Nat.reduceEqDiff,reduceCtorEq,Nat.reduceAdd,Nat.reduceLeDiff,Int.reduceLT,Int.reduceLE,↓u_setN]
  exact z2z b hb hb2 hb3 h78 h711 T7 T8 T11 hs h7 h8 _ hr
 ·rw [h] at hr
  simp only [if_true] at hr
  simp only [T7,T11,r9,e12,e9,s3,s4,h711,↓vcPre,↓z0,↓reduceIte,vcPost,vcStd,Nat.reduceEqDiff,reduceCtorEq,Nat.reduceAdd,Nat.reduceLeDiff,Int.reduceLT,Int.reduceLE,↓u_setN]
  exact z2z { b with hm:=true,med:=r.md } hb hb2 hb3 h78 h711 (Store.set_same _ _ _) (((Store.set_ne _ _ h78).trans (Store.set_ne _ _ h78)).trans T8) (((Store.set_ne _ _ h711).trans (Store.set_ne _ _ h711)).trans T11) (za (za hs h7) h7) h7 h8 [] hr
end
set_option maxHeartbeats 1000000 in
theorem s86 {σ:Store} (rs:List Rule) (q:Int×Int) (as1:Int) (a:At) (ha:a.ok) (ha2:a.path.length≤900000) (ha3:a.cms.length≤900000) (hl:rs.length≤4611686018427387903) {lv:AV} (hr:Rd 12 σ (rs.map Rule.c) lv) :
 ACalls Tryz.prog 86 [lv,.int .u32 as1,.agg [.int .u32 q.1,.int .i64 q.2],.agg a.c] σ (fun v s=>s=σ∧v = .tup [.agg (rapplyA rs as1 q a).1.c,.bool (rapplyA rs as1 q a).2]):=by
 refine zi Ts21.F86 (by simp [Ts21.F86,Fn.mkX]) ?_
 simp only [Ts21.F86,Fn.mkX,Ts21.b86,yi,qd]
 have e12:∀ y:Rule,y.c.length=12:=fun _=>rfl
 have t12:∀ y:Rule,List.take 12 y.c=y.c:=fun _=>rfl
 have e9:∀ y:At,y.c.length=9:=fun _=>rfl
 have t9:∀ y:At,List.take 9 y.c=y.c:=fun _=>rfl
 have hz:∀ y:At,splice 0 y.c zCells=some y.c:=fun _=>rfl
 have hzz:splice 0 zCells zCells=some zCells:=rfl
 have z12:∀ r:Rule,splice 0 r.c zR12=some r.c:=fun _=>rfl
 have z9:zCells.length=9:=rfl
 have zr:zR12.length=12:=rfl
 have y9:List.take 9 zCells=zCells:=rfl
 have sA:∀ y w:At,splice 0 y.c w.c=some y.c:=fun _ _=>rfl
 simp only [↓vcPre,↓z0,↓reduceIte,vcPost,vcStd,Nat.reduceEqDiff,reduceCtorEq,Nat.reduceAdd,Nat.reduceLeDiff,Int.reduceLT,Int.reduceLE,↓u_setN]
 refine AllocQ.i0 fun p6 h6 => ?_
 simp only [↓vcPre,↓z0,↓reduceIte,vcPost,vcStd,Nat.reduceEqDiff,reduceCtorEq,Nat.reduceAdd,Nat.reduceLeDiff,Int.reduceLT,Int.reduceLE,↓u_setN]
 refine AllocQ.i1 fun p7 h76 h67 h7 => ?_
 simp only [↓vcPre,↓z0,↓reduceIte,vcPost,vcStd,Nat.reduceEqDiff,reduceCtorEq,Nat.reduceAdd,Nat.reduceLeDiff,Int.reduceLT,Int.reduceLE,↓u_setN]
 refine AllocQ.i2 fun p8 h86 h68 h87 h78 h8 => ?_
 have hlen:=hr.2
 rw [List.length_map] at hlen
 simp only [h78,e9,t9,↓vcPre,↓z0,↓reduceIte,vcPost,vcStd,Nat.reduceEqDiff,reduceCtorEq,Nat.reduceAdd,Nat.reduceLeDiff,Int.reduceLT,Int.reduceLE,↓u_setN]
 refine (c83 a ha).Q ?_
 simp only [h78,e9,sA,↓vcPre,↓z0,↓reduceIte,vcPost,vcStd,Nat.reduceEqDiff,reduceCtorEq,Nat.reduceAdd,Nat.reduceLeDiff,Int.reduceLT,Int.reduceLE,↓u_setN]
 have sT:Store.sub σ ((((σ.set p6 (.box [.int .u32 q.1,.int .i64 q.2])).set p7 (.box a.c)).set p8 (.box zCells)).set p7 (.box (canonA a).c)):=za (za (zn h6 h7 h76) h8) h7
 have T7:((((σ.set p6 (.box [.int .u32 q.1,.int .i64 q.2])).set p7 (.box a.c)).set p8 (.box zCells)).set p7 (.box (canonA a).c)) p7=some (.box (canonA a).c):=Store.set_same _ _ _
 have T8:((((σ.set p6 (.box [.int .u32 q.1,.int .i64 q.2])).set p7 (.box a.c)).set p8 (.box zCells)).set p7 (.box (canonA a).c)) p8=some (.box zCells):=by rw [Store.set_ne _ _ h87];exact Store.set_same _ _ _
 have T6:((((σ.set p6 (.box [.int .u32 q.1,.int .i64 q.2])).set p7 (.box a.c)).set p8 (.box zCells)).set p7 (.box (canonA a).c)) p6=some (.box [.int .u32 q.1,.int .i64 q.2]):=by rw [Store.set_ne _ _ h67,Store.set_ne _ _ h68,Store.set_ne _ _ h67];exact Store.set_same _ _ _
 generalize ((((σ.set p6 (.box [.int .u32 q.1,.int .i64 q.2])).set p7 (.box a.c)).set p8 (.box zCells)).set p7 (.box (canonA a).c))=T at sT T8 T7 T6 ⊢
 have hc:(canonA a).ok:=y0 ha
 have hc2:(canonA a).path.length≤900000:=ha2
 have hc3:(canonA a).cms.length≤900000:=by have:=x5 a.cms;simp only [canonA];omega
 have hAA:rapplyA rs as1 q a=(match rs.find? (fun r=>matchF r q (canonA a)) with | none=>(canonA a,true) | some r=>if r.rj then (zeroAt,false) else (rdoneA r as1 (canonA a),true)):=rfl
 rw [hAA]
 generalize canonA a=c at hc hc2 hc3 T7 ⊢
 refine LoopQ.inv (S:=Nat) (fun k=>[(0,lv),(1,.int .u32 as1),(6,.ptr p6 0),(7,.ptr p7 0),(8,.ptr p8 0),(10,.int .i64 (k:Int))]) (fun _=>T) (fun k=>k≤rs.length∧(rs.take k).find? (fun r=>matchF r q c)=none) (fun k=>rs.length+1 - k) 0 rfl (Store.sub_refl _) ⟨by omega,by simp⟩ ?_
 rintro k ⟨hk,hf⟩
 simp only [hlen,↓vcPre,↓z0,↓reduceIte,vcPost,vcStd,Nat.reduceEqDiff,reduceCtorEq,Nat.reduceAdd,Nat.reduceLeDiff,Int.reduceLT,Int.reduceLE,↓u_setN]
 refine ⟨fun c1 => ?_,fun c1 => ?_⟩
 ·have c1':k<rs.length:=by omega
  have ek:IntKind.i64.wrap ((k:Int)+1)=((k+1:Nat):Int):=by rw [zd (by unfold I64;omega)];omega
  obtain ⟨p,hp,hrd⟩:=hr.at (k:=k) (by simpa using c1')
  have hrd':=hrd T sT 12
  have eg:(rs.map Rule.c)[k]'(by simpa using c1')=rs[k].c:=List.getElem_map ..
  rw [eg] at hrd'
  have tk:takeN 0 12 rs[k].c=some rs[k].c:=rfl
  rw [tk] at hrd'
  have hft:=z1p c1' hf
  have hft1:=z0k c1' hf
  generalize rs[k]=r at hrd' hft hft1
  simp only [hp,hrd',e12,t12,↓vcPre,↓z0,↓reduceIte,vcPost,vcStd,Nat.reduceEqDiff,reduceCtorEq,Nat.reduceAdd,Nat.reduceLeDiff,Int.reduceLT,Int.reduceLE,↓u_setN]
  refine AllocQ.i0 fun p11 h11 => ?_
  simp only [z12,zr,e12,↓vcPre,↓z0,↓reduceIte,vcPost,vcStd,Nat.reduceEqDiff,reduceCtorEq,Nat.reduceAdd,Nat.reduceLeDiff,Int.reduceLT,Int.reduceLE,↓u_setN]
  have n7:¬ p7=p11:=fun e=>by subst e;rw [T7] at h11;cases h11
  have sU:Store.sub T ((T.set p11 (.box zR12)).set p11 (.box r.c)):=za (Store.sub_set _ _ _ h11) h11
  have U11:((T.set p11 (.box zR12)).set p11 (.box r.c)) p11=some (.box r.c):=Store.set_same _ _ _
  generalize (T.set p11 (.box zR12)).set p11 (.box r.c)=U at sU U11 ⊢
  have U6:=sU _ _ T6
  have U7:=sU _ _ T7
  have U8:=sU _ _ T8
  simp only [U6,U7,U11,e9,t9,e12,t12,↓vcPre,↓z0,↓reduceIte,vcPost,vcStd,Nat.reduceEqDiff,reduceCtorEq,Nat.reduceAdd,Nat.reduceLeDiff,Int.reduceLT,Int.reduceLE,↓u_setN]
  have sU2:=Store.sub_trans sT sU
  have g5:List.take 1 (List.drop 5 r.c)=[.bool r.rj]:=rfl
  cases hm:matchF r q c
  ·have hM:=zbj r q c hc.2.2
   rw [hm] at hM
   refine hM.Q ?_
   simp only [ek,↓vcPre,↓z0,↓reduceIte,vcPost,vcStd,Nat.reduceEqDiff,reduceCtorEq,Nat.reduceAdd,Nat.reduceLeDiff,Int.reduceLT,Int.reduceLE,↓u_setN]
   exact NextQ.to (k+1) rfl sU (by omega) ⟨by omega,hft1 hm⟩
  ·have hM:=zbj r q c hc.2.2
   rw [hm] at hM
   refine hM.Q ?_
   rw [hm] at hft
   simp only [if_true] at hft
   rw [hft]
   simp only [U11,g5,e12,t12,↓vcPre,↓z0,↓reduceIte,vcPost,vcStd,Nat.reduceEqDiff,reduceCtorEq,Nat.reduceAdd,Nat.reduceLeDiff,Int.reduceLT,Int.reduceLE,↓u_setN]
   cases hj:r.rj
   ·have g6:List.take 1 (List.drop 6 r.c)=[.bool r.sp]:=rfl
    have g7:List.take 1 (List.drop 7 r.c)=[.int .u32 r.pf]:=rfl
    have fin:∀ t',Store.sub σ t'→t' p8=some (.box (rcommA r (pathA r as1 (medA r (prfA r c)))).c) → @EndQ [(8,.ptr p8 0),(9,.bool true)] t' ⟨Ts21.F86.slots,fun v s=>s=σ∧v = .tup [.agg (match some r with | none=>(c,true) | some r=>if r.rj then (zeroAt,false) else (rdoneA r as1 c,true)).1.c,.bool (match some r with | none=>(c,true) | some r=>if r.rj then (zeroAt,false) else (rdoneA r as1 c,true)).2]⟩:=fun t' q1 q2=>by
     refine EndQ.to σ (.tup [.agg (rdoneA r as1 c).c,.bool true]) ?_ q1 ⟨rfl,by simp only [hj];rfl⟩
     show Env.res [(8,AV.ptr p8 0),(9,.bool true)] _ [RS.c 8 9 true,RS.t 9]=_
     simp only [q2,e9,t9,Nat.le_refl,↓vcPre,↓z0,↓reduceIte,vcPost,vcStd,Nat.reduceEqDiff,reduceCtorEq,Nat.reduceAdd,Nat.reduceLeDiff,Int.reduceLT,Int.reduceLE,↓u_setN]
     rfl
    have hp0:r.sp=false→prfA r c=c:=fun h=>by unfold prfA;rw [h];rfl
    have hp1:r.sp=true→prfA r c={ c with hp:=true,prf:=r.pf }:=fun h=>by unfold prfA;rw [h];rfl
    have s5:splice 5 [.bool true] c.c=some ({ c with hp:=true }:At).c:=rfl
    have s6:splice 6 [.int .u32 r.pf] ({ c with hp:=true }:At).c=some ({ c with hp:=true,prf:=r.pf }:At).c:=rfl
    have n711:¬ p11=p7:=fun e=>n7 e.symm
    have hσ7:=h7
    cases h:r.sp
    ·rw [hp0 h] at fin
     simp only [U11,g6,e12,h,↓vcPre,↓z0,↓reduceIte,vcPost,vcStd,Nat.reduceEqDiff,reduceCtorEq,Nat.reduceAdd,Nat.reduceLeDiff,Int.reduceLT,Int.reduceLE,↓u_setN]
     exact z2y (σ:=σ) c hc hc2 hc3 h87 n711 U7 U8 U11 sU2 h7 h8 _ fin
    ·rw [hp1 h] at fin
     simp only [U11,U7,g6,g7,e12,e9,h,s5,s6,n711,↓vcPre,↓z0,↓reduceIte,vcPost,vcStd,Nat.reduceEqDiff,reduceCtorEq,Nat.reduceAdd,Nat.reduceLeDiff,Int.reduceLT,Int.reduceLE,↓u_setN]
     exact z2y (σ:=σ) { c with hp:=true,prf:=r.pf } hc hc2 hc3 h87 n711 (Store.set_same _ _ _) (((Store.set_ne _ _ h87).trans (Store.set_ne _ _ h87)).trans U8) (((Store.set_ne _ _ n711).trans (Store.set_ne _ _ n711)).trans U11) (za (za sU2 h7) h7) h7 h8 [] fin
   ·simp only [U8,hzz,z9,↓vcPre,↓z0,↓reduceIte,vcPost,vcStd,Nat.reduceEqDiff,reduceCtorEq,Nat.reduceAdd,Nat.reduceLeDiff,Int.reduceLT,Int.reduceLE,↓u_setN]
    refine EndQ.two (.agg zCells) (.bool false) σ ?_ ?_
    ·show Env.res [(8,AV.ptr p8 0),(9,.bool false)] _ [RS.c 8 9 true,RS.t 9]=_
     simp only [Store.set_same,z9,y9,Nat.le_refl,↓vcPre,↓z0,↓reduceIte,vcPost,vcStd,Nat.reduceEqDiff,reduceCtorEq,Nat.reduceAdd,Nat.reduceLeDiff,Int.reduceLT,Int.reduceLE,↓u_setN]
    ·exact WeakL.pos 0 rfl (v8 (WeakL.forget (za sU2 h8) (WeakL.pure ⟨rfl,by simp only [hj,if_true];rfl⟩)))
 ·have hkl:rs.take k=rs:=List.take_of_length_le (by omega)
  rw [hkl] at hf
  rw [hf]
  simp only [T7,T8,e9,t9,hz,↓vcPre,↓z0,↓reduceIte,vcPost,vcStd,Nat.reduceEqDiff,reduceCtorEq,Nat.reduceAdd,Nat.reduceLeDiff,Int.reduceLT,Int.reduceLE,↓u_setN]
  refine EndQ.to σ (.tup [.agg c.c,.bool true]) ?_ (za sT h8) ⟨rfl,rfl⟩
  show Env.res [(8,AV.ptr p8 0),(9,.bool true)] _ [RS.c 8 9 true,RS.t 9]=_
  simp only [Store.set_same,e9,t9,Nat.le_refl,↓vcPre,↓z0,↓reduceIte,vcPost,vcStd,Nat.reduceEqDiff,reduceCtorEq,Nat.reduceAdd,Nat.reduceLeDiff,Int.reduceLT,Int.reduceLE,↓u_setN]
end Go.Am
namespace Go.Am
open Go.Proofs Go.Sort
theorem z2l (r:Rule) (q:Int×Int) (a:At):matchF r q (canonA a)=matchF r q a:=by
 have:(r.cm ∈ (canonA a).cms)=(r.cm ∈ a.cms):=propext wi
 unfold matchF
 simp only [this]
theorem ur (b:At) (h1:b.hm=true∨b.med=0) (h2:b.hp=true∨b.prf=0) (h3:Inc b.cms):canonA b=b:=by
 obtain ⟨o,p,n,hm,m,hp,q,t,c⟩:=b
 simp only at h1 h2 h3
 cases hm <;> cases hp <;> simp_all [canonA,vn]
theorem z6b {L:List Int} {n:Int} (hL:Inc L) (h:n ∈ L):putL L n=L:=qh (w0 hL) hL fun x=>by
 rw [putL_mem];constructor
 ·rintro (rfl | h') <;> assumption
 ·exact .inr
theorem z6a {L:List Int} {n:Int} (h:n ∉ L):(putL L n).length=L.length+1:=by
 induction L with
 | nil=>simp [putL]
 | cons y r ih =>
   simp only [List.mem_cons,not_or] at h
   simp only [putL]
   split
   ·simp [ih h.2]
   ·rw [if_neg (fun e=>h.1 e.symm)];simp
theorem z4i {L:List Int} {n:Int} (hL:Inc L):canonC (L++[n])=putL L n:=qh (wh _) (w0 hL) fun x=>by
 rw [wi,putL_mem,List.mem_append,List.mem_singleton];exact Or.comm
theorem z5u (r:Rule) (b:At) (h1:b.hm=true∨b.med=0) (h2:b.hp=true∨b.prf=0) (h3:Inc b.cms):canonA (commA r b)=rcommA r b:=by
 unfold commA rcommA
 by_cases c1:r.ac≠0
 ·by_cases c2:b.cms.length<32
  ·have:=z08 b.cms r.ac
   rw [if_pos ⟨c1,c2⟩,if_pos ⟨c1,by omega⟩]
   have e:canonA { b with cms:=b.cms++[r.ac] }=canonA { b with cms:=putL b.cms r.ac }:=by
    simp only [canonA,z4i h3,vn (w0 h3)]
   rw [e]
   exact ur _ h1 h2 (w0 h3)
  ·rw [if_neg (fun h=>c2 h.2),ur b h1 h2 h3]
   by_cases c3:r.ac ∈ b.cms
   ·rw [z6b h3 c3]
    split <;> rfl
   ·rw [if_neg (fun h=>by have:=z6a c3;omega)]
 ·rw [if_neg (fun h=>c1 h.1),if_neg (fun h=>c1 h.1),ur b h1 h2 h3]
theorem z4p (r:Rule) (x:Int) (a:At):canonA (pathA r x (medA r (prfA r a)))=pathA r x (medA r (prfA r (canonA a))):=by
 unfold pathA medA prfA canonA
 cases r.sm <;> cases r.sp <;> rfl
theorem z5y (r:Rule) (x:Int) (a:At):doneN r x a=rdoneA r x (canonA a):=by
 unfold doneN rdoneA
 rw [←z4p]
 generalize pathA r x (medA r (prfA r a))=c
 refine z5u r _ ?_ ?_ (wh _)
 ·cases h:c.hm <;> simp [canonA,h]
 ·cases h:c.hp <;> simp [canonA,h]
theorem z4f (rs:List Rule) (x:Int) (q:Int×Int) (a:At):rapplyA rs x q a=applyA rs x q a:=by
 unfold rapplyA applyA
 simp only [z2l,z5y]
 try rfl
theorem z7f {r:Rule} {b:At} (h:b.ok) (h2:b.cms.length≤900000):(commA r b).ok:=by
 unfold commA;split
 ·exact ⟨h.1,h.2.1,by simp;omega⟩
 ·exact h
theorem z80 {r:Rule} {x:Int} {b:At} (h:b.ok) (h2:b.path.length≤900000):(pathA r x b).ok:=by
 have:=xn x (preN r.pp) b.path
 have h10:preN r.pp≤10:=by unfold preN;omega
 exact ⟨by simp only [pathA];omega,wo x _ _ h.2.1,h.2.2⟩
theorem z7i {r:Rule} {x:Int} {a:At} (h:a.ok) (h2:a.path.length≤900000) (h3:a.cms.length≤900000):(doneN r x a).ok:=by
 have hp:(prfA r a).path=a.path∧(prfA r a).cms=a.cms:=by unfold prfA;split <;> exact ⟨rfl,rfl⟩
 have hm:(medA r (prfA r a)).path=a.path∧(medA r (prfA r a)).cms=a.cms:=by unfold medA;split <;> exact hp
 have h0:(medA r (prfA r a)).ok:=⟨by rw [hm.1];exact h.1,by rw [hm.1];exact h.2.1,by rw [hm.2];exact h.2.2⟩
 have h4:=z80 (r:=r) (x:=x) h0 (by rw [hm.1];exact h2)
 refine y0 (z7f (y0 h4) ?_)
 have:=x5 (pathA r x (medA r (prfA r a))).cms
 have e:(pathA r x (medA r (prfA r a))).cms=a.cms:=hm.2
 rw [e] at this
 simp only [canonA,e]
 omega
theorem up {rs:List Rule} {x:Int} {q:Int×Int} {a:At} (h:a.ok) (h2:a.path.length≤900000) (h3:a.cms.length≤900000):(applyA rs x q a).1.ok:=by
 unfold applyA
 split
 ·exact y0 h
 ·split
  ·exact z78
  ·exact z7i h h2 h3
end Go.Am
namespace Go.Am
open Go.Proofs Go.Sort
set_option maxHeartbeats 1000000 in
theorem zc1 {σ:Store} (rs:List Rule) (hk:∀ r ∈ rs,r.ok) {lv:AV} (hr:Rd 12 σ (rs.map Rule.c) lv):ACalls Tryz.prog 38 [lv] σ (fun r s=>s=σ∧r = .sl 12 ((rulesK rs).map Rule.c)):=by
 refine zi Ts17.F38 (by simp [Ts17.F38,Fn.mkX]) ?_
 simp only [Ts17.F38,Fn.mkX,Ts17.b38]
 have hlen:=hr.2
 rw [List.length_map] at hlen
 simp only [↓vcPre,↓z0,↓reduceIte,vcPost,vcStd,Nat.reduceEqDiff,reduceCtorEq,Nat.reduceAdd,Nat.reduceLeDiff,Int.reduceLT,Int.reduceLE,↓u_setN]
 refine LoopQ.inv (S:=Nat×AV×Store) (fun q=>[(0,lv),(3,q.2.1),(4,.int .i64 (q.1:Int))]) (fun q=>q.2.2)
  (fun q=>q.1≤rs.length∧q.1≤3∧Store.sub σ q.2.2∧Own 12 σ (((rs.take q.1).mapIdx fun i r=>ruleK r (decide (i=0))).map Rule.c) q.2.1 q.2.2)
  (fun q=>4 - q.1) (0,.nils,σ) rfl (Store.sub_refl _) ⟨by simp only;omega,by simp only;omega,Store.sub_refl _,Own.nil⟩ ?_
 rintro ⟨k,v,s⟩ ⟨hk1,hk2,i1,i2⟩
 simp only at hk1 hk2 i1 i2
 simp only [hlen,↓vcPre,↓z0,↓reduceIte,vcPost,vcStd,Nat.reduceEqDiff,reduceCtorEq,Nat.reduceAdd,Nat.reduceLeDiff,Int.reduceLT,Int.reduceLE,↓u_setN]
 have fin:∀ w,w=(rs.take 3).mapIdx (fun i r=>ruleK r (decide (i=0)))→Own 12 σ (w.map Rule.c) v s → @EndQ [(2,v)] s ⟨Ts17.F38.slots,fun r s=>s=σ∧r = .sl 12 ((rulesK rs).map Rule.c)⟩:=fun w hw ho =>
  EndQ.own rfl ho i1 ⟨rfl,by rw [hw];rfl⟩
 have e12:∀ y:Rule,y.c.length=12:=fun _=>rfl
 refine ⟨fun c1=>⟨fun c2 => ?_,fun c2=>fin _ (by rw [show k=3 by omega]) i2⟩,fun c1=>fin _ (by rw [List.take_of_length_le (by omega),List.take_of_length_le (by omega)]) i2⟩
 have c1':k<rs.length:=by omega
 obtain ⟨p,hp,hrd⟩:=hr.at (k:=k) (by simpa using c1')
 have hrd':=hrd s i1 12
 have eg:(rs.map Rule.c)[k]'(by simpa using c1')=rs[k].c:=List.getElem_map ..
 rw [eg] at hrd'
 have tk:takeN 0 12 rs[k].c=some rs[k].c:=rfl
 rw [tk] at hrd'
 have ro:=hk rs[k] (List.getElem_mem c1')
 have hmi:=z3m rs (fun i r=>ruleK r (decide (i=0))) k c1'
 generalize rs[k]=r at hrd' ro hmi
 have t12:∀ y:Rule,List.take 12 y.c=y.c:=fun _=>rfl
 have e12:∀ y:Rule,y.c.length=12:=fun _=>rfl
 have z12:∀ y:Rule,splice 0 y.c [AV.int .u32 0,.int .i64 0,.int .i64 0,.int .i64 0,.int .u32 0,.bool false,.bool false,.int .u32 0,.bool false,.int .u32 0,.int .i64 0,.int .u32 0]=some y.c:=fun _=>rfl
 simp only [hp,hrd',e12,t12,↓vcPre,↓z0,↓reduceIte,vcPost,vcStd,Nat.reduceEqDiff,reduceCtorEq,Nat.reduceAdd,Nat.reduceLeDiff,Int.reduceLT,Int.reduceLE,↓u_setN]
 refine AllocQ.i0 fun p5 hp5 => ?_
 have g0:List.take 1 r.c=[.int .u32 r.ad]:=rfl
 have g1:List.take 1 (List.drop 1 r.c)=[.int .i64 r.ln]:=rfl
 have g5:List.take 1 (List.drop 5 r.c)=[.bool r.rj]:=rfl
 have g6:List.take 1 (List.drop 6 r.c)=[.bool r.sp]:=rfl
 have g8:List.take 1 (List.drop 8 r.c)=[.bool r.sm]:=rfl
 have g10:List.take 1 (List.drop 10 r.c)=[.int .i64 r.pp]:=rfl
 have g11:List.take 1 (List.drop 11 r.c)=[.int .u32 r.ac]:=rfl
 simp only [e12,t12,z12,g0,g1,g5,g6,g8,g10,g11,↓vcPre,↓z0,↓reduceIte,vcPost,vcStd,Nat.reduceEqDiff,reduceCtorEq,Nat.reduceAdd,Nat.reduceLeDiff,Int.reduceLT,Int.reduceLE,↓u_setN]
 have hσ5:σ p5=none:=zm i1 hp5
 have s5:Store.sub s ((s.set p5 (.box [AV.int .u32 0,.int .i64 0,.int .i64 0,.int .i64 0,.int .u32 0,.bool false,.bool false,.int .u32 0,.bool false,.int .u32 0,.int .i64 0,.int .u32 0])).set p5 (.box r.c)):=za (Store.sub_set s p5 _ hp5) hp5
 have T5:((s.set p5 (.box [AV.int .u32 0,.int .i64 0,.int .i64 0,.int .i64 0,.int .u32 0,.bool false,.bool false,.int .u32 0,.bool false,.int .u32 0,.int .i64 0,.int .u32 0])).set p5 (.box r.c)) p5=some (.box r.c):=Store.set_same _ _ _
 generalize (s.set p5 (.box [AV.int .u32 0,.int .i64 0,.int .i64 0,.int .i64 0,.int .u32 0,.bool false,.bool false,.int .u32 0,.bool false,.int .u32 0,.int .i64 0,.int .u32 0])).set p5 (.box r.c)=T at s5 T5 ⊢
 have hw:=c22 r.pp 0 2 ro.2 (by omega) (by omega) (by omega)
 rw [show (0:Int)+r.pp % (2 - 0+1)=r.pp % 3 by omega] at hw
 refine ⟨by decide,(c19 r.ad r.ln ro.1).Q ?_⟩
 have hdk:decide ((k:Int)=0)=decide (k=0):=by simp
 have z12':∀ y:Rule,splice 0 y.c [AV.int .u32 0,.int .i64 0,.int .i64 0,.int .i64 0,.int .u32 0,.bool false,.bool false,.int .u32 0,.bool false,.int .u32 0,.int .i64 0,.int .u32 0]=some y.c:=fun _=>rfl
 cases hrj:r.rj
 all_goals
  simp only [↓vcPre,↓z0,↓reduceIte,vcPost,vcStd,Nat.reduceEqDiff,reduceCtorEq,Nat.reduceAdd,Nat.reduceLeDiff,Int.reduceLT,Int.reduceLE,↓u_setN]
  refine hw.Q ?_
  simp only [↓vcPre,↓z0,↓reduceIte,vcPost,vcStd,Nat.reduceEqDiff,reduceCtorEq,Nat.reduceAdd,Nat.reduceLeDiff,Int.reduceLT,Int.reduceLE,↓u_setN]
  refine AllocQ.i0 fun p6 hp6 => ?_
  simp only [↓vcPre,↓z0,↓reduceIte,vcPost,vcStd,Nat.reduceEqDiff,reduceCtorEq,Nat.reduceAdd,Nat.reduceLeDiff,Int.reduceLT,Int.reduceLE,↓u_setN]
  have h56:¬ p5=p6:=fun e=>by subst e;rw [T5] at hp6;cases hp6
  have hσ6:σ p6=none:=zm (Store.sub_trans i1 s5) hp6
  have ek:IntKind.i64.wrap ((k:Int)+1)=((k+1:Nat):Int):=by rw [zd (by unfold I64;omega)];omega
  have hS:Store.sub σ T:=Store.sub_trans i1 s5
  have hO:=i2.mono s5
  refine z8e (r:=r) (x:=ruleA r (decide (k=0))) (σ:=σ) (L:=((rs.take k).mapIdx fun i r=>ruleK r (decide (i=0))).map Rule.c) h56 ?_ ?_ ?_ ?_ hσ6 ?_ [] ?_
  ·rw [Store.set_ne _ _ h56,Store.set_ne _ _ h56];exact T5
  ·rw [Store.set_same];simp [ruleA,Rule.c,hrj]
  ·exact (hO.mono (Store.sub_set T p6 _ hp6)).setId (Store.set_same _ _ _) (fun M e=>by cases e)
  ·exact za (za hS hσ6) hσ6
  ·rw [List.length_map,List.length_mapIdx,List.length_take];omega
  ·intro v' T' h1 h2
   simp only [ek,↓vcPre,↓z0,↓reduceIte,vcPost,vcStd,Nat.reduceEqDiff,reduceCtorEq,Nat.reduceAdd,Nat.reduceLeDiff,Int.reduceLT,Int.reduceLE,↓u_setN]
   refine NextQ.to (k+1,v',T') rfl (Store.sub_refl _) (by simp only;omega) ⟨by simp only;omega,by simp only;omega,h1,?_⟩
   simp only
   rw [hmi,List.map_append]
   exact h2
theorem z0w (a:At):(shortA a).ok:=by
 refine ⟨by simp [shortA];omega,fun s hs => ?_,by simp [shortA];omega⟩
 simp only [shortA,List.mem_map] at hs
 obtain ⟨s,_,rfl⟩:=hs
 simp [Seg.ok,shortS];omega
theorem z54 (rs:List Rule):(rulesK rs).length≤3:=by
 unfold rulesK;rw [List.length_mapIdx,List.length_take];omega
end Go.Am
namespace Go.Am
theorem z4z {a:Int} (h:0≤a):goodN (nextF a)∧0≤nextF a∧nextF a<4294967296:=by
 rw [z7y h]
 have h1:=Int.emod_nonneg a (b:=6) (by omega)
 have h2:=Int.emod_lt_of_pos a (b:=6) (by omega)
 have e:(3221225984+a % 6) / 16777216=192:=by omega
 refine ⟨?_,by omega,by omega⟩
 unfold goodN
 rw [e];omega
end Go.Am
namespace Go.Am
open Go.Proofs Go.Sort
theorem z9x (x:Int) (n:Nat) (hn:n≤100) (ls:List Int) (hl:ls.length≤100):∃ ls',preA x n [⟨2,ls⟩]=[⟨2,ls'⟩]∧ls'.length=ls.length+n:=by
 induction n with
 | zero=>exact ⟨ls,rfl,rfl⟩
 | succ n ih =>
   obtain ⟨l1,h1,h2⟩:=ih (by omega)
   refine ⟨x::l1,?_,by simp;omega⟩
   simp only [preA,h1,preA1]
   rw [if_pos (by simp;omega)]
theorem z84 (r:Rule) (z:Bool):0≤(ruleK r z).pp∧(ruleK r z).pp≤2:=by
 have h:(ruleK r z).pp=r.pp % 3:=by
  unfold ruleK ruleE ruleD ruleC ruleB ruleA
  split <;> split <;> split <;> split <;> rfl
 rw [h];omega
theorem z6q (a:At) (x:Int):∃ ls,(tameA a x).path=[⟨2,ls⟩]∧1≤ls.length∧ls.length≤3:=⟨_,rfl,by simp,by simp;omega⟩
end Go.Am
namespace Go.Am
open Go.Proofs Go.Sort
theorem z6p (l:List Int):Inc (tameC l):=by
 have key:∀ (l:List Int) (b:List Int),Inc b→Inc (l.foldl (fun c x=>putL c (tcm x)) b):=by
  intro l
  induction l with
  | nil=>intro b h;exact h
  | cons y r ih=>intro b h;exact ih _ (w0 h)
 exact key l [] (by simp [Inc])
section
variable {r:Rule} {t X:At} {σ:Store} {n rr:Env→Store→Prop} {xx:Nat→Env→Store→Prop} {p5 p11 p12:Nat}
end
end Go.Am
namespace Go.Am.Ts24
open Go.Proofs Go.Am.B
def t70_74:BC := .seq (z [f 74 3 1,l 75 1 74,u 76 .len 75,j 77 0] [1,75,76,77] (.block 1 (.loop [1,75,76,77] (z [b 78 .lss 77 76] [1,75,76,77,78] (.seq (.cond (.t 78) .skip (.exit 1)) (.seq (.block 2 (z [m 79 77,x 80 4 75 77,⟨some 81,none,.load (.ld 4 true),[.t 80]⟩,⟨some 4,none,.alloc (.alloc [(.int .u32 0),(.int .u32 0),.nils,.nils]),[]⟩,m 3 79,s 4 4 81] [1,3,4,75,76,77] (z [⟨some 82,none,.load (.ld 4 true),[.t 4]⟩,g 83 125 [.t 82],u 84 .not 83,m 85 84,⟨some 86,some (85,false),.pure (.fld 3),[.t 1]⟩,⟨some 87,some (85,false),.load (.ld 1 false),[.t 86]⟩,⟨some 88,some (85,false),.pure (.mov),[.t 3]⟩,⟨some 89,some (85,false),.pure (.slice 4 false true),[.t 87,.t 88]⟩,⟨some 90,some (85,false),.pure (.mkfn 127),[.t 4]⟩,⟨some 91,some (85,false),.loud (.call 126),[.t 89,.t 90]⟩,⟨some 92,none,.pick,[.t 85,.c (.bool true),.t 91]⟩] [1,75,76,77,92] (.cond (.t 92) (z [j 2 24] [2] .ret) .skip)))) (.ops [c 93 .add 77 1,m 77 93] [1,75,76,77]))))))) (z [j 2 0] [2] .ret)
def b70:BC:=z [⟨some 1,none,.alloc (.box),[.t 0]⟩,j 2 0] [1] (.seq (.block 0 (.seq (z [f 6 0 1,l 7 1 6,p 8 (.bin .lss) [.t 7,.c (.int .u32 1)],m 9 8,⟨some 10,some (9,false),.pure (.fld 0),[.t 1]⟩,⟨some 11,some (9,false),.load (.ld 1 false),[.t 10]⟩,⟨some 12,some (9,false),.pure (.bin .gtr),[.t 11,.c (.int .u32 65535)]⟩,⟨some 13,none,.pick,[.t 9,.c (.bool true),.t 12]⟩,m 14 13,⟨some 15,some (14,false),.pure (.fld 1),[.t 1]⟩,⟨some 16,some (14,false),.load (.ld 1 false),[.t 15]⟩,⟨some 17,some (14,false),.loud (.call 124),[.t 16]⟩,⟨some 18,some (14,false),.pure (.not),[.t 17]⟩,⟨some 19,none,.pick,[.t 14,.c (.bool true),.t 18]⟩,m 20 19,⟨some 21,some (20,false),.pure (.fld 2),[.t 1]⟩,⟨some 22,some (20,false),.load (.ld 1 false),[.t 21]⟩,⟨some 23,some (20,false),.pure (.bin .neq),[.t 22,.c (.int .i64 0)]⟩,⟨some 24,some (20,false),.pure (.mov),[.t 23]⟩,⟨some 25,some (24,true),.pure (.fld 2),[.t 1]⟩,⟨some 26,some (24,true),.load (.ld 1 false),[.t 25]⟩,⟨some 27,some (24,true),.pure (.bin .lss),[.t 26,.c (.int .i64 3)]⟩,⟨some 28,some (20,false),.pick,[.t 24,.t 27,.c (.bool false)]⟩,⟨some 29,none,.pick,[.t 20,.c (.bool true),.t 28]⟩,m 30 29,⟨some 31,some (30,false),.pure (.fld 2),[.t 1]⟩,⟨some 32,some (30,false),.load (.ld 1 false),[.t 31]⟩,⟨some 33,some (30,false),.pure (.bin .gtr),[.t 32,.c (.int .i64 65535)]⟩,⟨some 34,none,.pick,[.t 30,.c (.bool true),.t 33]⟩,m 5 34] [1,5] (.cond (.t 5) .skip (.ops [f 35 4 1,l 36 1 35,c 37 .lss 36 1,m 38 37,⟨some 39,some (38,false),.pure (.fld 4),[.t 1]⟩,⟨some 40,some (38,false),.load (.ld 1 false),[.t 39]⟩,⟨some 41,some (38,false),.pure (.bin .gtr),[.t 40,.c (.int .i64 8)]⟩,⟨some 42,none,.pick,[.t 38,.c (.bool true),.t 41]⟩,m 43 42,⟨some 44,some (43,false),.pure (.fld 5),[.t 1]⟩,⟨some 45,some (43,false),.load (.ld 1 false),[.t 44]⟩,⟨some 46,some (43,false),.pure (.bin .lss),[.t 45,.c (.int .i64 1)]⟩,⟨some 47,none,.pick,[.t 43,.c (.bool true),.t 46]⟩,m 48 47,⟨some 49,some (48,false),.pure (.fld 5),[.t 1]⟩,⟨some 50,some (48,false),.load (.ld 1 false),[.t 49]⟩,⟨some 51,some (48,false),.pure (.bin .gtr),[.t 50,.c (.int .i64 8)]⟩,⟨some 52,none,.pick,[.t 48,.c (.bool true),.t 51]⟩,m 53 52,⟨some 54,some (53,false),.pure (.fld 6),[.t 1]⟩,⟨some 55,some (53,false),.load (.ld 1 false),[.t 54]⟩,⟨some 56,some (53,false),.pure (.bin .lss),[.t 55,.c (.int .i64 0)]⟩,⟨some 57,none,.pick,[.t 53,.c (.bool true),.t 56]⟩,m 58 57,⟨some 59,some (58,false),.pure (.fld 6),[.t 1]⟩,⟨some 60,some (58,false),.load (.ld 1 false),[.t 59]⟩,⟨some 61,some (58,false),.pure (.bin .gtr),[.t 60,.c (.int .i64 4096)]⟩,⟨some 62,none,.pick,[.t 58,.c (.bool true),.t 61]⟩,m 5 62] [1,5]))) (.cond (.t 5) (z [j 2 1] [2] .ret) (z [f 64 3 1,l 65 1 64,u 66 .len 65,c 67 .lss 66 1,m 68 67,⟨some 69,some (68,false),.pure (.fld 3),[.t 1]⟩,⟨some 70,some (68,false),.load (.ld 1 false),[.t 69]⟩,⟨some 71,some (68,false),.pure (.len),[.t 70]⟩,⟨some 72,some (68,false),.pure (.bin .gtr),[.t 71,.c (.int .i64 4)]⟩,⟨some 73,none,.pick,[.t 68,.c (.bool true),.t 72]⟩,m 63 73] [1,63] (.cond (.t 63) (z [j 2 4] [2] .ret) .skip))))) t70_74)
def F70:Fn Tryz.prog 70:=Fn.mkX false b70 [.t 2] 94 Tryz.f70 _ Tryz.func70 (by decide) rfl Tryz.ntmps70 (by kernel_rfl) (by kernel_rfl)
end Go.Am.Ts24
namespace Go.Am
open Go.Proofs Go.Sort
structure Peer where
 asn:Int
 ad:Int
 inn:List Rule
 out:List Rule
def Peer.c (p:Peer):List AV:=[.int .u32 p.asn,.int .u32 p.ad,.sl 12 (p.inn.map Rule.c),.sl 12 (p.out.map Rule.c)]
structure Cfg where
 asn:Int
 id:Int
 hold:Int
 ps:List Peer
 wd:Int
 dp:Int
 rm:Int
def Cfg.cV (c:Cfg) (v:AV):List AV:=[.int .u32 c.asn,.int .u32 c.id,.int .i64 c.hold,v,.int .i64 c.wd,.int .i64 c.dp,.int .i64 c.rm]
def peerOk (p:Peer):Bool:=decide (1≤p.asn) && (decide (p.asn≤65535) && (decide (goodN p.ad) && (rulesOk p.inn && rulesOk p.out)))
def Peer.fit (p:Peer):Prop:=p.inn.length≤4611686018427387903∧p.out.length≤4611686018427387903
theorem z90 (l:List Rule) (hl:l.length≤4611686018427387903):Pur Tryz.prog 168 [.sl 12 (l.map Rule.c)] (.bool (rulesOk l)):=fun _=>zgt l hl Rd.sl
theorem zfr (p:Peer) (h:p.fit):Pur Tryz.prog 125 [.agg p.c] (.bool (peerOk p)):=by
 refine zo Tst.F125 (by simp [Tst.F125,Fn.mkX]) fun σ => ?_
 simp only [Tst.F125,Fn.mkX,Tst.b125]
 have e4:p.c.length=4:=rfl
 have f0:List.take 1 p.c=[.int .u32 p.asn]:=rfl
 have f1:List.take 1 (List.drop 1 p.c)=[.int .u32 p.ad]:=rfl
 have f2:List.take 1 (List.drop 2 p.c)=[.sl 12 (p.inn.map Rule.c)]:=rfl
 have f3:List.take 1 (List.drop 3 p.c)=[.sl 12 (p.out.map Rule.c)]:=rfl
 simp only [↓vcPre,↓z0,↓reduceIte,vcPost,vcStd,Nat.reduceEqDiff,reduceCtorEq,Nat.reduceAdd,Nat.reduceLeDiff,Int.reduceLT,Int.reduceLE,↓u_setN]
 refine AllocQ.i0 fun i hi => ?_
 have sT:=Store.sub_set σ i (.box p.c) hi
 simp only [e4,f0,f1,↓vcPre,↓z0,↓reduceIte,vcPost,vcStd,Nat.reduceEqDiff,reduceCtorEq,Nat.reduceAdd,Nat.reduceLeDiff,Int.reduceLT,Int.reduceLE,↓u_setN]
 refine ⟨fun c1=>⟨fun c2 => ?_,fun c2 => ?_⟩,fun c1 => ?_⟩
 ·refine (z7a p.ad).Q ?_
  cases h1:decide (goodN p.ad)
  ·simp only [↓vcPre,↓z0,↓reduceIte,vcPost,vcStd,Nat.reduceEqDiff,reduceCtorEq,Nat.reduceAdd,Nat.reduceLeDiff,Int.reduceLT,Int.reduceLE,↓u_setN]
   exact ⟨by simp [peerOk,h1],sT⟩
  ·simp only [e4,f2,↓vcPre,↓z0,↓reduceIte,vcPost,vcStd,Nat.reduceEqDiff,reduceCtorEq,Nat.reduceAdd,Nat.reduceLeDiff,Int.reduceLT,Int.reduceLE,↓u_setN]
   refine (z90 p.inn h.1).Q ?_
   cases h2:rulesOk p.inn
   ·simp only [↓vcPre,↓z0,↓reduceIte,vcPost,vcStd,Nat.reduceEqDiff,reduceCtorEq,Nat.reduceAdd,Nat.reduceLeDiff,Int.reduceLT,Int.reduceLE,↓u_setN]
    exact ⟨by simp [peerOk,h2],sT⟩
   ·simp only [e4,f3,↓vcPre,↓z0,↓reduceIte,vcPost,vcStd,Nat.reduceEqDiff,reduceCtorEq,Nat.reduceAdd,Nat.reduceLeDiff,Int.reduceLT,Int.reduceLE,↓u_setN]
    refine (z90 p.out h.2).Q ?_
    simp only [↓vcPre,↓z0,↓reduceIte,vcPost,vcStd,Nat.reduceEqDiff,reduceCtorEq,Nat.reduceAdd,Nat.reduceLeDiff,Int.reduceLT,Int.reduceLE,↓u_setN]
    refine ⟨?_,sT⟩
    have g1:decide (1≤p.asn)=true:=by simpa using c1
    have g2:decide (p.asn≤65535)=true:=by simpa using c2
    unfold peerOk
    rw [h1,h2,g1,g2];simp
 ·refine ⟨?_,sT⟩
  have g2:decide (p.asn≤65535)=false:=by simpa using c2
  unfold peerOk;rw [g2];simp
 ·refine ⟨?_,sT⟩
  have g1:decide (1≤p.asn)=false:=by simpa using c1
  unfold peerOk;rw [g1];simp
theorem zfs (σ:Store) (p:Peer) (v:List AV) (q:Int) (x y z:AV) {g:Nat} (hg:σ g=some (.box [x,.int .u32 q,y,z])):ACalls Tryz.prog 127 [.agg p.c,.ptr g 0] σ (fun r s=>s=σ∧r = .bool (decide (p.ad=q))):=by
 refine zi Tst.F127 (by simp [Tst.F127,Fn.mkX]) ?_
 simp only [Tst.F127,Fn.mkX,Tst.b127]
 have e4:p.c.length=4:=rfl
 have f1:List.take 1 (List.drop 1 p.c)=[.int .u32 p.ad]:=rfl
 simp only [↓vcPre,↓z0,↓reduceIte,vcPost,vcStd,Nat.reduceEqDiff,reduceCtorEq,Nat.reduceAdd,Nat.reduceLeDiff,Int.reduceLT,Int.reduceLE,↓u_setN]
 refine AllocQ.i0 fun i hi => ?_
 have sT:=Store.sub_set σ i (.box p.c) hi
 have hgi:¬ g=i:=fun e=>by subst e;rw [hg] at hi;cases hi
 simp only [e4,f1,hg,hgi,↓vcPre,↓z0,↓reduceIte,vcPost,vcStd,Nat.reduceEqDiff,reduceCtorEq,Nat.reduceAdd,Nat.reduceLeDiff,Int.reduceLT,Int.reduceLE,↓u_setN]
 exact EndQ.to σ _ rfl sT ⟨rfl,rfl⟩
theorem zgu {σ:Store} (l:List Peer) (hl:l.length≤1000000) (q:Int) (x y z:AV) {g:Nat} (hg:σ g=some (.box [x,.int .u32 q,y,z])) {lv:AV} (hr:Rd 4 σ (l.map Peer.c) lv):ACalls Tryz.prog 169 [lv,.fn 127 [.ptr g 0]] σ (fun r s=>s=σ∧∃ k:Int,r = .int .i64 k∧decide (0≤k)=l.any fun p=>decide (p.ad=q)):=by
 refine zi Tst.F169 (by simp [Tst.F169,Fn.mkX]) ?_
 simp only [Tst.F169,Fn.mkX,Tst.b169]
 have hlen:=hr.2
 rw [List.length_map] at hlen
 simp only [hlen,↓vcPre,↓z0,↓reduceIte,vcPost,vcStd,Nat.reduceEqDiff,reduceCtorEq,Nat.reduceAdd,Nat.reduceLeDiff,Int.reduceLT,Int.reduceLE,↓u_setN]
 refine LoopQ.inv (S:=Nat) (fun k=>[(0,lv),(1,.fn 127 [.ptr g 0]),(7,.int .i64 (l.length:Int)),(8,.int .i64 (k:Int))]) (fun _=>σ) (fun k=>k≤l.length∧((l.take k).any fun p=>decide (p.ad=q))=false) (fun k=>l.length+1 - k) 0 rfl (Store.sub_refl _) ⟨by omega,by simp⟩ ?_
 rintro k ⟨hk,hrk⟩
 simp only [↓vcPre,↓z0,↓reduceIte,vcPost,vcStd,Nat.reduceEqDiff,reduceCtorEq,Nat.reduceAdd,Nat.reduceLeDiff,Int.reduceLT,Int.reduceLE,↓u_setN]
 refine ⟨fun c1 => ?_,fun c1 => ?_⟩
 ·have ek:IntKind.i64.wrap ((k:Int)+1)=((k+1:Nat):Int):=by rw [zd (by unfold I64;omega)];omega
  have c1':k<l.length:=by omega
  obtain ⟨p,hp,hrd⟩:=hr.at (k:=k) (by simpa using c1')
  have hrd':=hrd σ (Store.sub_refl _) 4
  have eg:(l.map Peer.c)[k]'(by simpa using c1')=l[k].c:=List.getElem_map ..
  rw [eg] at hrd'
  have tk:takeN 0 4 l[k].c=some l[k].c:=rfl
  rw [tk] at hrd'
  have e4:l[k].c.length=4:=rfl
  simp only [hp,hrd',e4,↓vcPre,↓z0,↓reduceIte,vcPost,vcStd,Nat.reduceEqDiff,reduceCtorEq,Nat.reduceAdd,Nat.reduceLeDiff,Int.reduceLT,Int.reduceLE,↓u_setN]
  refine (zfs σ l[k] [] q x y z hg).Q ?_
  rintro w σ ⟨rfl,rfl⟩
  cases h:decide (l[k].ad=q)
  ·simp only [↓vcPre,↓z0,↓reduceIte,vcPost,vcStd,Nat.reduceEqDiff,reduceCtorEq,Nat.reduceAdd,Nat.reduceLeDiff,Int.reduceLT,Int.reduceLE,↓u_setN]
   rw [ek]
   refine NextQ.to (k+1) rfl (Store.sub_refl _) (by omega) ⟨by omega,?_⟩
   rw [List.take_succ_eq_append_getElem c1',List.any_append,hrk];simpa using h
  ·simp only [↓vcPre,↓z0,↓reduceIte,vcPost,vcStd,Nat.reduceEqDiff,reduceCtorEq,Nat.reduceAdd,Nat.reduceLeDiff,Int.reduceLT,Int.reduceLE,↓u_setN]
   refine EndQ.to _ _ rfl (Store.sub_refl _) ⟨rfl,_,rfl,?_⟩
   have:(l.any fun p=>decide (p.ad=q))=true:=by
    rw [List.any_eq_true];exact ⟨l[k],List.getElem_mem c1',h⟩
   rw [this];simp
 ·have e:l.take k=l:=List.take_of_length_le (by omega)
  rw [e] at hrk
  exact EndQ.to _ _ rfl (Store.sub_refl _) ⟨rfl,_,rfl,by rw [hrk];rfl⟩
theorem zgn {σ:Store} (l:List Peer) (hl:l.length≤1000000) (q:Int) (x y z:AV) {g:Nat} (hg:σ g=some (.box [x,.int .u32 q,y,z])) {lv:AV} (hr:Rd 4 σ (l.map Peer.c) lv):ACalls Tryz.prog 126 [lv,.fn 127 [.ptr g 0]] σ (fun r s=>s=σ∧r = .bool (l.any fun p=>decide (p.ad=q))):=by
 refine zi Tst.F126 (by simp [Tst.F126,Fn.mkX]) ?_
 simp only [Tst.F126,Fn.mkX,Tst.b126]
 simp only [↓vcPre,↓z0,↓reduceIte,vcPost,vcStd,Nat.reduceEqDiff,reduceCtorEq,Nat.reduceAdd,Nat.reduceLeDiff,Int.reduceLT,Int.reduceLE,↓u_setN]
 refine (zgu l hl q x y z hg hr).Q ?_
 rintro r σ ⟨rfl,k,rfl,hk⟩
 simp only [↓vcPre,↓z0,↓reduceIte,vcPost,vcStd,Nat.reduceEqDiff,reduceCtorEq,Nat.reduceAdd,Nat.reduceLeDiff,Int.reduceLT,Int.reduceLE,↓u_setN]
 exact EndQ.to _ _ rfl (Store.sub_refl _) ⟨rfl,by rw [hk]⟩
def distA:List Peer→Bool
 | []=>true
 | p::r=>(r.all fun q=>decide (q.ad≠p.ad)) && distA r
theorem z4o (l:List Peer) (p:Peer):distA (l++[p])=(distA l && !(l.any fun q=>decide (q.ad=p.ad))):=by
 induction l with
 | nil=>simp [distA]
 | cons x l ih =>
   simp only [List.cons_append,distA,ih,List.all_append,List.any_cons,List.all_cons,List.all_nil,Bool.and_true]
   by_cases h:x.ad=p.ad
   ·have h':¬ (p.ad≠x.ad):=fun e=>e h.symm
    simp [h]
   ·have h':p.ad≠x.ad:=fun e=>h e.symm
    simp [h,h',Bool.and_assoc]
def peersA (l:List Peer):Bool:=l.all peerOk && distA l
theorem qy {l:List Peer} {k:Nat} (h:k<l.length):peersA (l.take (k+1))=(peersA (l.take k) && (peerOk l[k] && !((l.take k).any fun q=>decide (q.ad=l[k].ad)))):=by
 unfold peersA
 rw [List.take_succ_eq_append_getElem h,List.all_append,z4o]
 simp only [List.all_cons,List.all_nil,Bool.and_true]
 generalize (l.take k).all peerOk=a
 generalize distA (l.take k)=b
 generalize peerOk l[k]=d
 generalize ((l.take k).any fun q=>decide (q.ad=l[k].ad))=e
 cases a <;> cases b <;> cases d <;> cases e <;> rfl
theorem z4n {l m:List Peer}:distA (l++m)=true→distA l=true:=by
 induction l with
 | nil=>intro _;rfl
 | cons x l ih =>
   simp only [List.cons_append,distA,List.all_append,Bool.and_eq_true]
   rintro ⟨⟨h1,_⟩,h2⟩
   exact ⟨h1,ih h2⟩
theorem q0 {l:List Peer} {k:Nat} (h:peersA (l.take k)=false):peersA l=false:=by
 cases hp:peersA l with
 | false=>rfl
 | true =>
   exfalso
   unfold peersA at hp h
   simp only [Bool.and_eq_true,List.all_eq_true] at hp
   have h1:(l.take k).all peerOk=true:=List.all_eq_true.2 fun x hx=>hp.1 x (List.mem_of_mem_take hx)
   have h2:distA (l.take k)=true:=z4n (m:=l.drop k) (by rw [List.take_append_drop];exact hp.2)
   rw [h1,h2] at h;cases h
end Go.Am
namespace Go.Am
open Go.Proofs Go.Sort
def cfgA (c:Cfg):Prop:=(1≤c.asn∧c.asn≤65535)∧goodN c.id∧(c.hold=0∨3≤c.hold)∧c.hold≤65535∧(1≤c.wd∧c.wd≤8)∧(1≤c.dp∧c.dp≤8)∧(0≤c.rm∧c.rm≤4096)
def cfgB (c:Cfg):Prop:=1≤c.ps.length∧c.ps.length≤4
instance (c:Cfg):Decidable (cfgA c):=by unfold cfgA;infer_instance
instance (c:Cfg):Decidable (cfgB c):=by unfold cfgB;infer_instance
def chkA (c:Cfg):Int:=if ¬ cfgA c then 1 else if ¬ cfgB c then 4 else if peersA c.ps then 0 else 24
theorem Rd.cut {esz:Nat} {τ:Store} {L:List (List AV)} {v:AV} (h:Rd esz τ L v) {k:Nat} (hk:k≤L.length):∃ w,pSlice esz v 0 (some (k:Int))=some w∧Rd esz τ (L.take k) w:=by
 have h1:=h.1
 have h2:=h.2
 rcases h.cases with ⟨rfl,rfl⟩ | rfl | ⟨g,o,n,rfl⟩
 ·have:k=0:=by simpa using hk
  subst this
  exact ⟨.nils,rfl,Rd.nils⟩
 ·refine ⟨.sl esz (L.take k),?_,Rd.sl⟩
  simp [pSlice,hk]
 ·simp only [pv,pLen,Option.some.injEq,AV.int.injEq,true_and] at h2
  have h2':n=L.length:=by omega
  subst h2'
  refine ⟨.os g esz o k,by simp [pSlice,hk],fun t ht => ?_,by simp [pv,pLen,hk]⟩
  have h3:=h1 t ht
  unfold slc at h3 ⊢
  simp only at h3 ⊢
  split at h3
  ·rename_i e2 es hg
   split at h3
   ·rename_i e;obtain ⟨_,rfl,hle⟩:=e
    rw [if_pos (by refine ⟨?_,?_,?_⟩ <;> first | trivial | rfl | omega)]
    have h4:=Option.some.inj h3
    rw [←h4,List.take_take,Nat.min_eq_left hk]
   ·cases h3
  ·cases h3
section
variable {c:Cfg} {σ:Store} {n rr:Env→Store→Prop} {xx:Nat→Env→Store→Prop} {p1:Nat} {lv:AV}
theorem z8a {T:Store} (hf:∀ p ∈ c.ps,p.fit) (hB:c.ps.length≤4) (hr:Rd 4 σ (c.ps.map Peer.c) lv) (T1:T p1=some (.box (c.cV lv))) (hs:Store.sub σ T) (E:List (Nat×AV))
 (h:∀ t',Store.sub σ t'→rr [(2,.int .i64 (if peersA c.ps then 0 else 24))] t'):bwp Tryz.prog Ts24.t70_74 ((1,.ptr p1 0)::E) T n rr xx:=by
 simp only [Ts24.t70_74]
 have hlen:=hr.2
 rw [List.length_map] at hlen
 have c7:∀ v,(c.cV v).length=7:=fun _=>rfl
 have f3:∀ v,List.take 1 (List.drop 3 (c.cV v))=[v]:=fun _=>rfl
 simp only [T1,c7,f3,hlen,↓vcPre,↓z0,↓reduceIte,vcPost,vcStd,Nat.reduceEqDiff,reduceCtorEq,Nat.reduceAdd,Nat.reduceLeDiff,Int.reduceLT,Int.reduceLE,↓u_setN]
 refine LoopQ.inv (S:=Nat) (fun k=>[(1,.ptr p1 0),(75,lv),(76,.int .i64 (c.ps.length:Int)),(77,.int .i64 (k:Int))]) (fun _=>T) (fun k=>k≤c.ps.length∧peersA (c.ps.take k)=true) (fun k=>c.ps.length+1 - k) 0 rfl (Store.sub_refl _) ⟨by omega,by simp [peersA,distA]⟩ ?_
 rintro k ⟨hk,hp⟩
 simp only [↓vcPre,↓z0,↓reduceIte,vcPost,vcStd,Nat.reduceEqDiff,reduceCtorEq,Nat.reduceAdd,Nat.reduceLeDiff,Int.reduceLT,Int.reduceLE,↓u_setN]
 refine ⟨fun c1 => ?_,fun c1 => ?_⟩
 ·have ek:IntKind.i64.wrap ((k:Int)+1)=((k+1:Nat):Int):=by rw [zd (by unfold I64;omega)];omega
  have c1':k<c.ps.length:=by omega
  obtain ⟨p,hp1,hrd⟩:=hr.at (k:=k) (by simpa using c1')
  have hrd':=hrd T hs 4
  have eg:(c.ps.map Peer.c)[k]'(by simpa using c1')=c.ps[k].c:=List.getElem_map ..
  rw [eg] at hrd'
  have tk:takeN 0 4 c.ps[k].c=some c.ps[k].c:=rfl
  rw [tk] at hrd'
  have hfk:=hf _ (List.getElem_mem c1')
  have hstep:=qy c1'
  have hfalse:=fun h=>q0 (l:=c.ps) (k:=k+1) h
  generalize c.ps[k]=y at hrd' hfk hstep
  have e4:y.c.length=4:=rfl
  have t4:List.take 4 y.c=y.c:=rfl
  have z4:splice 0 y.c [AV.int .u32 0,.int .u32 0,.nils,.nils]=some y.c:=rfl
  simp only [hp1,hrd',e4,t4,↓vcPre,↓z0,↓reduceIte,vcPost,vcStd,Nat.reduceEqDiff,reduceCtorEq,Nat.reduceAdd,Nat.reduceLeDiff,Int.reduceLT,Int.reduceLE,↓u_setN]
  refine AllocQ.i0 fun p4 h4 => ?_
  simp only [z4,e4,↓vcPre,↓z0,↓reduceIte,vcPost,vcStd,Nat.reduceEqDiff,reduceCtorEq,Nat.reduceAdd,Nat.reduceLeDiff,Int.reduceLT,Int.reduceLE,↓u_setN]
  have sU:Store.sub T ((T.set p4 (.box [AV.int .u32 0,.int .u32 0,.nils,.nils])).set p4 (.box y.c)):=za (Store.sub_set _ _ _ h4) h4
  have U4:=Store.set_same (T.set p4 (.box [AV.int .u32 0,.int .u32 0,.nils,.nils])) p4 (.box y.c)
  generalize (T.set p4 (.box [AV.int .u32 0,.int .u32 0,.nils,.nils])).set p4 (.box y.c)=U at sU U4 ⊢
  have U1:=sU _ _ T1
  have sU2:=Store.sub_trans hs sU
  simp only [U4,e4,t4,↓vcPre,↓z0,↓reduceIte,vcPost,vcStd,Nat.reduceEqDiff,reduceCtorEq,Nat.reduceAdd,Nat.reduceLeDiff,Int.reduceLT,Int.reduceLE,↓u_setN]
  refine (zfr y hfk).Q ?_
  cases ho:peerOk y
  ·rw [ho] at hstep
   have hx:=hfalse (by rw [hstep];simp)
   rw [hx] at h
   simp only [↓vcPre,↓z0,↓reduceIte,vcPost,vcStd,Nat.reduceEqDiff,reduceCtorEq,Nat.reduceAdd,Nat.reduceLeDiff,Int.reduceLT,Int.reduceLE,↓u_setN]
   exact h _ sU2
  ·rw [ho] at hstep
   obtain ⟨w,w1,w2⟩:=(hr.mono sU2).cut (k:=k) (by simpa using hk)
   simp only [U1,c7,f3,w1,↓vcPre,↓z0,↓reduceIte,vcPost,vcStd,Nat.reduceEqDiff,reduceCtorEq,Nat.reduceAdd,Nat.reduceLeDiff,Int.reduceLT,Int.reduceLE,↓u_setN]
   have w3:=zgn (σ:=U) (c.ps.take k) (by simp;omega) y.ad (.int .u32 y.asn) (.sl 12 (y.inn.map Rule.c)) (.sl 12 (y.out.map Rule.c)) (g:=p4) U4 (lv:=w) (by rw [List.map_take];exact w2)
   rw [hp] at hstep
   refine w3.Q ?_
   rintro v U ⟨rfl,rfl⟩
   cases ha:((c.ps.take k).any fun p=>decide (p.ad=y.ad))
   ·rw [ha] at hstep
    simp only [ek,↓vcPre,↓z0,↓reduceIte,vcPost,vcStd,Nat.reduceEqDiff,reduceCtorEq,Nat.reduceAdd,Nat.reduceLeDiff,Int.reduceLT,Int.reduceLE,↓u_setN]
    exact NextQ.to (k+1) rfl sU (by omega) ⟨by omega,by rw [hstep];rfl⟩
   ·rw [ha] at hstep
    have hx:=hfalse (by rw [hstep];rfl)
    rw [hx] at h
    simp only [↓vcPre,↓z0,↓reduceIte,vcPost,vcStd,Nat.reduceEqDiff,reduceCtorEq,Nat.reduceAdd,Nat.reduceLeDiff,Int.reduceLT,Int.reduceLE,↓u_setN]
    exact h _ sU2
 ·have e:c.ps.take k=c.ps:=List.take_of_length_le (by omega)
  rw [e] at hp
  rw [hp] at h
  exact h _ hs
end
set_option maxHeartbeats 1000000 in
set_option maxRecDepth 20000 in
theorem s70 {σ:Store} (c:Cfg) (hf:∀ p ∈ c.ps,p.fit) {lv:AV} (hr:Rd 4 σ (c.ps.map Peer.c) lv):ACalls Tryz.prog 70 [.agg (c.cV lv)] σ (fun r s=>s=σ∧r = .int .i64 (chkA c)):=by
 refine zi Ts24.F70 (by simp [Ts24.F70,Fn.mkX]) ?_
 simp only [Ts24.F70,Fn.mkX,Ts24.b70]
 have hlen:=hr.2
 rw [List.length_map] at hlen
 have c7:∀ v,(c.cV v).length=7:=fun _=>rfl
 have f0:∀ v,List.take 1 (c.cV v)=[.int .u32 c.asn]:=fun _=>rfl
 have f1:∀ v,List.take 1 (List.drop 1 (c.cV v))=[.int .u32 c.id]:=fun _=>rfl
 have f2:∀ v,List.take 1 (List.drop 2 (c.cV v))=[.int .i64 c.hold]:=fun _=>rfl
 have f3:∀ v,List.take 1 (List.drop 3 (c.cV v))=[v]:=fun _=>rfl
 have f4:∀ v,List.take 1 (List.drop 4 (c.cV v))=[.int .i64 c.wd]:=fun _=>rfl
 have f5:∀ v,List.take 1 (List.drop 5 (c.cV v))=[.int .i64 c.dp]:=fun _=>rfl
 have f6:∀ v,List.take 1 (List.drop 6 (c.cV v))=[.int .i64 c.rm]:=fun _=>rfl
 simp only [↓vcPre,↓z0,↓reduceIte,vcPost,vcStd,Nat.reduceEqDiff,reduceCtorEq,Nat.reduceAdd,Nat.reduceLeDiff,Int.reduceLT,Int.reduceLE,↓u_setN]
 refine AllocQ.i0 fun p1 h1 => ?_
 have sT:=Store.sub_set σ p1 (.box (c.cV lv)) h1
 have T1:=Store.set_same σ p1 (.box (c.cV lv))
 generalize σ.set p1 (.box (c.cV lv))=T at sT T1 ⊢
 have e1:¬ cfgA c → @EndQ [(2,.int .i64 1)] T ⟨Ts24.F70.slots,fun r s=>s=σ∧r = .int .i64 (chkA c)⟩:=fun h=>EndQ.to σ _ rfl sT ⟨rfl,by unfold chkA;rw [if_pos h]⟩
 have e4:cfgA c→¬ cfgB c → @EndQ [(2,.int .i64 4)] T ⟨Ts24.F70.slots,fun r s=>s=σ∧r = .int .i64 (chkA c)⟩:=fun h h'=>EndQ.to σ _ rfl sT ⟨rfl,by unfold chkA;rw [if_neg (fun x=>x h),if_pos h']⟩
 have e0:cfgA c→cfgB c→∀ t',Store.sub σ t' → @EndQ [(2,.int .i64 (if peersA c.ps then 0 else 24))] t' ⟨Ts24.F70.slots,fun r s=>s=σ∧r = .int .i64 (chkA c)⟩:=fun h h' t' hs=>EndQ.to σ _ rfl hs ⟨rfl,by unfold chkA;rw [if_neg (show ¬ ¬ cfgA c from fun x=>x h),if_neg (show ¬ ¬ cfgB c from fun x=>x h')]⟩
 simp only [T1,c7,f0,f1,↓vcPre,↓z0,↓reduceIte,vcPost,vcStd,Nat.reduceEqDiff,reduceCtorEq,Nat.reduceAdd,Nat.reduceLeDiff,Int.reduceLT,Int.reduceLE,↓u_setN]
 refine ⟨fun c1=>⟨fun c2 => ?_,fun c2 => ?_⟩,fun c1 => ?_⟩
 ·refine (z7a c.id).Q ?_
  cases hg:decide (goodN c.id)
  ·have hg':¬ goodN c.id:=by simpa using hg
   simp only [↓vcPre,↓z0,↓reduceIte,vcPost,vcStd,Nat.reduceEqDiff,reduceCtorEq,Nat.reduceAdd,Nat.reduceLeDiff,Int.reduceLT,Int.reduceLE,↓u_setN]
   exact e1 (fun h=>hg' h.2.1)
  ·have hg':goodN c.id:=by simpa using hg
   simp only [T1,c7,f2,f3,f4,f5,f6,hlen,↓vcPre,↓z0,↓reduceIte,vcPost,vcStd,Nat.reduceEqDiff,reduceCtorEq,Nat.reduceAdd,Nat.reduceLeDiff,Int.reduceLT,Int.reduceLE,↓u_setN]
   repeat' (with_reducible refine And.intro (fun _ => ?_) (fun _ => ?_))
   all_goals first
    | exact e1 (fun h=>by unfold cfgA at h;omega)
    | exact e4 ⟨⟨by omega,by omega⟩,hg',by omega,by omega,⟨by omega,by omega⟩,⟨by omega,by omega⟩,⟨by omega,by omega⟩⟩ (fun h=>by unfold cfgB at h;omega)
    | (exfalso;omega)
    | exact z8a hf (by omega) hr T1 sT _ (e0 ⟨⟨by omega,by omega⟩,hg',by omega,by omega,⟨by omega,by omega⟩,⟨by omega,by omega⟩,⟨by omega,by omega⟩⟩ ⟨by omega,by omega⟩)
 ·exact e1 (fun h=>by unfold cfgA at h;omega)
 ·exact e1 (fun h=>by unfold cfgA at h;omega)
end Go.Am
namespace Go.Am.Ts25
open Go.Proofs Go.Am.B
def t41_96:BC:=z [⟨some 96,none,.load (.ld 9 true),[.t 10]⟩,g 97 78 [.t 96],m 95 97,e 98 0 95,e 99 1 95,m 13 98,m 14 99] [8,10,12,13,14] (.seq (z [m 100 12,u 101 .not 100,m 102 101,⟨some 103,some (102,false),.pure (.mov),[.t 14]⟩,⟨some 104,some (102,false),.pure (.bin .neq),[.t 103,.c (.int .i64 0)]⟩,⟨some 105,none,.pick,[.t 102,.c (.bool true),.t 104]⟩,m 106 105,⟨some 107,some (106,false),.pure (.mov),[.t 13]⟩,⟨some 108,some (106,false),.pure (.len),[.t 107]⟩,⟨some 109,some (106,false),.pure (.bin .gtr),[.t 108,.c (.int .i64 4068)]⟩,⟨some 110,none,.pick,[.t 106,.c (.bool true),.t 109]⟩] [8,10,110] (.cond (.t 110) (z [p 111 (.build [(.int .i64 0),.nils,(.int .u32 0),(.bool false),(.int .u32 0),(.bool false),(.int .u32 0),(.bool false),.nils] []) [],s 9 8 111,k 9 (.bool false)] [8,9] .ret) .skip)) (z [⟨some 112,none,.load (.ld 9 true),[.t 10]⟩,s 9 8 112,k 9 (.bool true)] [8,9] .ret))
def t41_78:BC:=z [f 78 3 4,m 80 1,f 84 0 4,l 79 1 78,x 81 4 79 80,f 82 3 81,l 83 1 82,l 85 1 84,⟨some 86,none,.load (.ld 2 true),[.t 6]⟩,⟨some 87,none,.load (.ld 9 true),[.t 10]⟩,g 88 77 [.t 83,.t 85,.t 86,.t 87],m 77 88,e 89 0 77,e 90 1 77,s 9 10 89,m 12 90] [8,10,11,12] (.seq (z [m 91 11,u 92 .not 91] [8,10,12,92] (.cond (.t 92) (.ops [f 93 5 10,⟨none,none,.loud (.st 1),[.t 93,.c (.bool false)]⟩,f 94 6 10,⟨none,none,.loud (.st 1),[.t 94,.c (.int .u32 0)]⟩] [8,10,12]) .skip)) t41_96)
def b41:BC:=z [⟨some 4,none,.alloc (.box),[.t 0]⟩,⟨some 6,none,.alloc (.box),[.t 2]⟩,⟨some 7,none,.alloc (.box),[.t 3]⟩,⟨some 8,none,.alloc (.alloc [(.int .i64 0),.nils,(.int .u32 0),(.bool false),(.int .u32 0),(.bool false),(.int .u32 0),(.bool false),.nils]),[]⟩,k 9 (.bool false)] [1,4,6,7,8] (.seq (z [⟨some 15,none,.load (.ld 7 true),[.t 4]⟩,g 16 70 [.t 15],c 17 .neq 16 0,m 18 17,⟨some 19,some (18,false),.pure (.mov),[.t 1]⟩,⟨some 20,some (18,false),.pure (.bin .lss),[.t 19,.c (.int .i64 0)]⟩,⟨some 21,none,.pick,[.t 18,.c (.bool true),.t 20]⟩,m 22 21,⟨some 23,some (22,false),.pure (.mov),[.t 1]⟩,⟨some 24,some (22,false),.pure (.fld 3),[.t 4]⟩,⟨some 25,some (22,false),.load (.ld 1 false),[.t 24]⟩,⟨some 26,some (22,false),.pure (.len),[.t 25]⟩,⟨some 27,some (22,false),.pure (.bin .geq),[.t 23,.t 26]⟩,⟨some 28,none,.pick,[.t 22,.c (.bool true),.t 27]⟩,m 29 28,⟨some 30,some (29,false),.load (.ld 2 true),[.t 6]⟩,⟨some 31,some (29,false),.loud (.call 71),[.t 30]⟩,⟨some 32,some (29,false),.pure (.not),[.t 31]⟩,⟨some 33,none,.pick,[.t 29,.c (.bool true),.t 32]⟩,m 34 33,⟨some 35,some (34,false),.pure (.fld 4),[.t 7]⟩,⟨some 36,some (34,false),.load (.ld 9 true),[.t 35]⟩,⟨some 37,some (34,false),.loud (.call 72),[.t 36]⟩,⟨some 38,some (34,false),.pure (.not),[.t 37]⟩,⟨some 39,none,.pick,[.t 34,.c (.bool true),.t 38]⟩,m 40 39,⟨some 41,some (40,false),.load (.ld 7 true),[.t 4]⟩,⟨some 42,some (40,false),.pure (.mov),[.t 1]⟩,⟨some 43,some (40,false),.load (.ld 13 true),[.t 7]⟩,⟨some 44,some (40,false),.loud (.call 73),[.t 41,.t 42,.t 43]⟩,⟨some 45,none,.pick,[.t 40,.c (.bool true),.t 44]⟩] [1,4,6,7,8,45] (.cond (.t 45) (z [p 46 (.build [(.int .i64 0),.nils,(.int .u32 0),(.bool false),(.int .u32 0),(.bool false),(.int .u32 0),(.bool false),.nils] []) [],s 9 8 46,k 9 (.bool false)] [8,9] .ret) .skip)) (z [f 47 4 7,⟨some 48,none,.load (.ld 9 true),[.t 47]⟩,g 49 74 [.t 48],⟨some 10,none,.alloc (.alloc [(.int .i64 0),.nils,(.int .u32 0),(.bool false),(.int .u32 0),(.bool false),(.int .u32 0),(.bool false),.nils]),[]⟩,s 9 10 49] [1,4,6,8,10] (z [f 50 3 4,m 52 1,f 56 0 4,l 51 1 50,x 53 4 51 52,f 54 0 53,l 55 1 54,l 57 1 56,b 58 .eql 55 57,m 11 58] [1,4,6,8,10,11] (.seq (z [m 59 11] [1,4,6,8,10,11,59] (.cond (.t 59) (.ops [⟨some 60,none,.load (.ld 9 true),[.t 10]⟩,g 61 75 [.t 60],f 62 5 10,⟨none,none,.loud (.st 1),[.t 62,.c (.bool true)]⟩,f 63 6 10,s 1 63 61] [1,4,6,8,10,11]) (z [f 64 1 10,l 65 1 64,f 66 0 4,l 67 1 66,g 68 76 [.t 65,.t 67,.c (.int .i64 1)],f 69 1 10,s 1 69 68] [1,4,6,8,10,11] (z [f 70 1 4,l 71 1 70,f 72 2 10,s 1 72 71] [1,4,6,8,10,11] (.ops [f 73 3 10,⟨none,none,.loud (.st 1),[.t 73,.c (.bool false)]⟩,f 74 4 10,⟨none,none,.loud (.st 1),[.t 74,.c (.int .u32 0)]⟩,f 75 5 10,⟨none,none,.loud (.st 1),[.t 75,.c (.bool false)]⟩,f 76 6 10,⟨none,none,.loud (.st 1),[.t 76,.c (.int .u32 0)]⟩] [1,4,6,8,10,11]))))) t41_78))))
def F41:Fn Tryz.prog 41:=Fn.mkX false b41 [.c 8 9 true,.t 9] 113 Tryz.f41 _ Tryz.func41 (by decide) rfl Tryz.ntmps41 (by kernel_rfl) (by kernel_rfl)
end Go.Am.Ts25
namespace Go.Am
open Go.Proofs Go.Sort
theorem Rd.atf {esz:Nat} {τ:Store} {L:List (List AV)} {v:AV} (h:Rd esz τ L v) {k:Nat} (hk:k<L.length):∃ p,pv (.idx esz) [v,.int .i64 (k:Int)]=some p∧(∀ t,Store.sub τ t→∀ n,rd t n p=takeN 0 n L[k])∧∀ off,off≤L[k].length→∃ p',pv (.fld off) [p]=some p'∧∀ t,Store.sub τ t→∀ n,rd t n p'=takeN off n L[k]:=by
 rcases h.cases with ⟨rfl,h0⟩ | rfl | ⟨g,o,n,rfl⟩
 ·subst h0;simp at hk
 ·refine ⟨.ep L[k],by simp [pv,pIdx,hk],fun t _ n=>rfl,fun off ho=>⟨.ep (L[k].drop off),rfl,fun t _ n => ?_⟩⟩
  simp only [rd,takeN,List.drop_zero,List.length_drop,Nat.zero_add]
  by_cases hc:off+n≤L[k].length
  ·rw [if_pos hc,if_pos (by omega)]
  ·rw [if_neg hc,if_neg (by omega)]
 ·have hl:=h.2
  simp only [pv,pLen,Option.some.injEq,AV.int.injEq,true_and] at hl
  have key:∀ t,Store.sub τ t→∃ es,t g=some (.arr esz es)∧es[o+k]? = some L[k]:=fun t ht=>by
   have h1:=h.1 t ht
   unfold slc at h1
   simp only at h1
   split at h1
   ·rename_i e2 es hg
    split at h1
    ·rename_i e;obtain ⟨_,rfl,hle⟩:=e
     have h2:=Option.some.inj h1
     have h4:((es.drop o).take n)[k]? = some L[k]:=by rw [h2];exact List.getElem?_eq_getElem hk
     rw [List.getElem?_take_of_lt (by omega),List.getElem?_drop] at h4
     exact ⟨es,hg,h4⟩
    ·cases h1
   ·cases h1
  refine ⟨.aptr g esz (o+k) 0,by simp [pv,pIdx];omega,fun t ht m => ?_,fun off ho=>⟨.aptr g esz (o+k) (0+off),rfl,fun t ht m => ?_⟩⟩
  ·obtain ⟨es,h1,h2⟩:=key t ht
   simp only [rd,h1,if_true,h2,Option.bind_some]
  ·obtain ⟨es,h1,h2⟩:=key t ht
   simp only [rd,h1,if_true,h2,Option.bind_some,Nat.zero_add]
structure PathR where
 peer:Int
 id:Int
 addr:Int
 inr:Bool
 a:At
def PathR.c (b:PathR):List AV := .int .i64 b.peer :: .int .u32 b.id :: .int .u32 b.addr :: .bool b.inr::b.a.c
theorem c75 (a:At):Pur Tryz.prog 75 [.agg a.c] (.int .u32 (if a.hp then a.prf else 100)):=by
 refine zo Tst.F75 (by simp [Tst.F75,Fn.mkX]) fun σ => ?_
 simp only [Tst.F75,Fn.mkX,Tst.b75]
 have e9:a.c.length=9:=rfl
 have b5:List.take 1 (List.drop 5 a.c)=[.bool a.hp]:=rfl
 have b6:List.take 1 (List.drop 6 a.c)=[.int .u32 a.prf]:=rfl
 simp only [↓vcPre,↓z0,↓reduceIte,vcPost,vcStd,Nat.reduceEqDiff,reduceCtorEq,Nat.reduceAdd,Nat.reduceLeDiff,Int.reduceLT,Int.reduceLE,↓u_setN]
 refine AllocQ.i0 fun p hp => ?_
 have sT:=Store.sub_set σ p (.box a.c) hp
 simp only [e9,b5,↓vcPre,↓z0,↓reduceIte,vcPost,vcStd,Nat.reduceEqDiff,reduceCtorEq,Nat.reduceAdd,Nat.reduceLeDiff,Int.reduceLT,Int.reduceLE,↓u_setN]
 cases h:a.hp
 ·simp only [↓vcPre,↓z0,↓reduceIte,vcPost,vcStd,Nat.reduceEqDiff,reduceCtorEq,Nat.reduceAdd,Nat.reduceLeDiff,Int.reduceLT,Int.reduceLE,↓u_setN]
  exact sT
 ·simp only [e9,b6,↓vcPre,↓z0,↓reduceIte,vcPost,vcStd,Nat.reduceEqDiff,reduceCtorEq,Nat.reduceAdd,Nat.reduceLeDiff,Int.reduceLT,Int.reduceLE,↓u_setN]
  exact sT
def innerA (c:Cfg) (p:Peer):Bool:=decide (p.asn=c.asn)
def hiddenA (c:Cfg) (k:Int) (p:Peer) (b:PathR):Bool:=decide (b.peer=k) || ((b.inr && innerA c p) || (decide ((4294967042:Int) ∈ b.a.cms) || (decide ((4294967041:Int) ∈ b.a.cms) && !innerA c p)))
theorem s73 {σ:Store} (c:Cfg) (k:Nat) (hk:k<c.ps.length) (b:PathR) (hb:b.a.cms.length≤1000000) {lv:AV} (hr:Rd 4 σ (c.ps.map Peer.c) lv):ACalls Tryz.prog 73 [.agg (c.cV lv),.int .i64 (k:Int),.agg b.c] σ (fun r s=>s=σ∧r = .bool (hiddenA c k c.ps[k] b)):=by
 refine zi Tst.F73 (by simp [Tst.F73,Fn.mkX]) ?_
 simp only [Tst.F73,Fn.mkX,Tst.b73]
 have c7:∀ v,(c.cV v).length=7:=fun _=>rfl
 have f0:∀ v,List.take 1 (c.cV v)=[.int .u32 c.asn]:=fun _=>rfl
 have f3:∀ v,List.take 1 (List.drop 3 (c.cV v))=[v]:=fun _=>rfl
 have b13:b.c.length=13:=rfl
 have b0:List.take 1 b.c=[.int .i64 b.peer]:=rfl
 have b3:List.take 1 (List.drop 3 b.c)=[.bool b.inr]:=rfl
 have b12:List.take 1 (List.drop 12 b.c)=[.sl 1 (b.a.cms.map cU)]:=rfl
 simp only [↓vcPre,↓z0,↓reduceIte,vcPost,vcStd,Nat.reduceEqDiff,reduceCtorEq,Nat.reduceAdd,Nat.reduceLeDiff,Int.reduceLT,Int.reduceLE,↓u_setN]
 refine AllocQ.i0 fun p3 h3 => ?_
 simp only [↓vcPre,↓z0,↓reduceIte,vcPost,vcStd,Nat.reduceEqDiff,reduceCtorEq,Nat.reduceAdd,Nat.reduceLeDiff,Int.reduceLT,Int.reduceLE,↓u_setN]
 refine AllocQ.i1 fun p5 h53 h35 h5 => ?_
 have sT:=zn (o := .box (c.cV lv)) (p := .box b.c) h3 h5 h53
 have T5:=Store.set_same (σ.set p3 (.box (c.cV lv))) p5 (.box b.c)
 have T3:((σ.set p3 (.box (c.cV lv))).set p5 (.box b.c)) p3=some (.box (c.cV lv)):=by rw [Store.set_ne _ _ h35];exact Store.set_same _ _ _
 generalize (σ.set p3 (.box (c.cV lv))).set p5 (.box b.c)=T at sT T5 T3 ⊢
 obtain ⟨p,hp,_,hfl⟩:=hr.atf (k:=k) (by simpa using hk)
 have eg:(c.ps.map Peer.c)[k]'(by simpa using hk)=c.ps[k].c:=List.getElem_map ..
 rw [eg] at hfl
 generalize c.ps[k]=y at hfl
 obtain ⟨p',hp',hrd⟩:=hfl 0 (by simp)
 have hrd':rd T 1 p'=some [.int .u32 y.asn]:=hrd T sT 1
 have hin:innerA c y=decide (y.asn=c.asn):=rfl
 simp only [T3,T5,c7,f0,f3,hp,hp',hrd',b13,b12,b0,b3,↓vcPre,↓z0,↓reduceIte,vcPost,vcStd,Nat.reduceEqDiff,reduceCtorEq,Nat.reduceAdd,Nat.reduceLeDiff,Int.reduceLT,Int.reduceLE,↓u_setN]
 clear hin
 have q1:=z7b b.a.cms hb 4294967042
 have q2:=z7b b.a.cms hb 4294967041
 refine ⟨fun c1 => ?_,fun c1=>EndQ.to σ _ rfl sT ⟨rfl,by simp [hiddenA,c1]⟩⟩
 have hd0:decide (b.peer=(k:Int))=false:=by simpa using c1
 by_cases hyc:y.asn=c.asn
 ·have hi:innerA c y=true:=by simp [innerA,hyc]
  unfold hiddenA
  rw [hi,hd0]
  cases hbi:b.inr
  ·simp only [hyc,↓vcPre,↓z0,↓reduceIte,vcPost,vcStd,Nat.reduceEqDiff,reduceCtorEq,Nat.reduceAdd,Nat.reduceLeDiff,Int.reduceLT,Int.reduceLE,↓u_setN]
   refine q1.Q ?_
   cases decide ((4294967042:Int) ∈ b.a.cms)
   ·simp only [↓vcPre,↓z0,↓reduceIte,vcPost,vcStd,Nat.reduceEqDiff,reduceCtorEq,Nat.reduceAdd,Nat.reduceLeDiff,Int.reduceLT,Int.reduceLE,↓u_setN]
    refine q2.Q ?_
    cases decide ((4294967041:Int) ∈ b.a.cms)
    ·simp only [↓vcPre,↓z0,↓reduceIte,vcPost,vcStd,Nat.reduceEqDiff,reduceCtorEq,Nat.reduceAdd,Nat.reduceLeDiff,Int.reduceLT,Int.reduceLE,↓u_setN]
     exact EndQ.to σ _ rfl sT ⟨rfl,rfl⟩
    ·simp only [↓vcPre,↓z0,↓reduceIte,vcPost,vcStd,Nat.reduceEqDiff,reduceCtorEq,Nat.reduceAdd,Nat.reduceLeDiff,Int.reduceLT,Int.reduceLE,↓u_setN]
     exact EndQ.to σ _ rfl sT ⟨rfl,by rw [hyc];simp⟩
   ·simp only [↓vcPre,↓z0,↓reduceIte,vcPost,vcStd,Nat.reduceEqDiff,reduceCtorEq,Nat.reduceAdd,Nat.reduceLeDiff,Int.reduceLT,Int.reduceLE,↓u_setN]
    exact EndQ.to σ _ rfl sT ⟨rfl,rfl⟩
  ·simp only [hyc,↓vcPre,↓z0,↓reduceIte,vcPost,vcStd,Nat.reduceEqDiff,reduceCtorEq,Nat.reduceAdd,Nat.reduceLeDiff,Int.reduceLT,Int.reduceLE,↓u_setN]
   exact EndQ.to σ _ rfl sT ⟨rfl,rfl⟩
 ·have hi:innerA c y=false:=by simp [innerA,hyc]
  unfold hiddenA
  rw [hi,hd0]
  have hyf:decide (y.asn=c.asn)=false:=by simpa using hyc
  cases hbi:b.inr
  ·simp only [↓vcPre,↓z0,↓reduceIte,vcPost,vcStd,Nat.reduceEqDiff,reduceCtorEq,Nat.reduceAdd,Nat.reduceLeDiff,Int.reduceLT,Int.reduceLE,↓u_setN]
   refine q1.Q ?_
   cases decide ((4294967042:Int) ∈ b.a.cms)
   ·simp only [↓vcPre,↓z0,↓reduceIte,vcPost,vcStd,Nat.reduceEqDiff,reduceCtorEq,Nat.reduceAdd,Nat.reduceLeDiff,Int.reduceLT,Int.reduceLE,↓u_setN]
    refine q2.Q ?_
    cases decide ((4294967041:Int) ∈ b.a.cms)
    ·simp only [↓vcPre,↓z0,↓reduceIte,vcPost,vcStd,Nat.reduceEqDiff,reduceCtorEq,Nat.reduceAdd,Nat.reduceLeDiff,Int.reduceLT,Int.reduceLE,↓u_setN]
     exact EndQ.to σ _ rfl sT ⟨rfl,rfl⟩
    ·simp only [↓vcPre,↓z0,↓reduceIte,vcPost,vcStd,Nat.reduceEqDiff,reduceCtorEq,Nat.reduceAdd,Nat.reduceLeDiff,Int.reduceLT,Int.reduceLE,↓u_setN]
     exact EndQ.to σ _ rfl sT ⟨rfl,by rw [hyf];rfl⟩
   ·simp only [↓vcPre,↓z0,↓reduceIte,vcPost,vcStd,Nat.reduceEqDiff,reduceCtorEq,Nat.reduceAdd,Nat.reduceLeDiff,Int.reduceLT,Int.reduceLE,↓u_setN]
    exact EndQ.to σ _ rfl sT ⟨rfl,rfl⟩
  ·simp only [↓vcPre,↓z0,↓reduceIte,vcPost,vcStd,Nat.reduceEqDiff,reduceCtorEq,Nat.reduceAdd,Nat.reduceLeDiff,Int.reduceLT,Int.reduceLE,↓u_setN]
   refine ⟨fun _ => ?_,fun h=>absurd h hyc⟩
   refine q1.Q ?_
   cases decide ((4294967042:Int) ∈ b.a.cms)
   ·simp only [↓vcPre,↓z0,↓reduceIte,vcPost,vcStd,Nat.reduceEqDiff,reduceCtorEq,Nat.reduceAdd,Nat.reduceLeDiff,Int.reduceLT,Int.reduceLE,↓u_setN]
    refine q2.Q ?_
    cases decide ((4294967041:Int) ∈ b.a.cms)
    ·simp only [↓vcPre,↓z0,↓reduceIte,vcPost,vcStd,Nat.reduceEqDiff,reduceCtorEq,Nat.reduceAdd,Nat.reduceLeDiff,Int.reduceLT,Int.reduceLE,↓u_setN]
     exact EndQ.to σ _ rfl sT ⟨rfl,rfl⟩
    ·simp only [↓vcPre,↓z0,↓reduceIte,vcPost,vcStd,Nat.reduceEqDiff,reduceCtorEq,Nat.reduceAdd,Nat.reduceLeDiff,Int.reduceLT,Int.reduceLE,↓u_setN]
     exact EndQ.to σ _ rfl sT ⟨rfl,by rw [hyf];rfl⟩
   ·simp only [↓vcPre,↓z0,↓reduceIte,vcPost,vcStd,Nat.reduceEqDiff,reduceCtorEq,Nat.reduceAdd,Nat.reduceLeDiff,Int.reduceLT,Int.reduceLE,↓u_setN]
    exact EndQ.to σ _ rfl sT ⟨rfl,rfl⟩
def fitT (a:At) (ok:Bool):Prop:=ok=true∧atRight a∧(encA a).length≤4068
instance (a:At) (ok:Bool):Decidable (fitT a ok):=by unfold fitT;infer_instance
def lastT (c:Cfg) (p:Peer) (a:At):At:=if innerA c p then a else { a with hp:=false,prf:=0 }
def tailT (c:Cfg) (p:Peer) (q:Int×Int) (a:At):At×Bool :=
 if fitT (lastT c p (applyA p.out c.asn q a).1) (applyA p.out c.asn q a).2 then (lastT c p (applyA p.out c.asn q a).1,true) else (zeroAt,false)
section
variable {c:Cfg} {σ:Store} {n rr:Env→Store→Prop} {xx:Nat→Env→Store→Prop} {p4 p6 p8 p10:Nat} {lv:AV} {k:Nat} {q:Int×Int}
theorem z34 {T:Store} (a:At) (ha:a.ok) (ok:Bool) (T8:T p8=some (.box zCells)) (T10:T p10=some (.box a.c)) (hs:Store.sub σ T) (h8:σ p8=none) (E:List (Nat×AV))
 (hT:∀ t',Store.sub σ t'→t' p8=some (.box a.c)→fitT a ok→rr [(8,.ptr p8 0),(9,.bool true)] t')
 (hF:∀ t',Store.sub σ t'→t' p8=some (.box zCells)→¬ fitT a ok→rr [(8,.ptr p8 0),(9,.bool false)] t') :
 bwp Tryz.prog Ts25.t41_96 ((8,.ptr p8 0)::(10,.ptr p10 0)::(12,.bool ok)::E) T n rr xx:=by
 simp only [Ts25.t41_96,yi]
 have e9:∀ y:At,y.c.length=9:=fun _=>rfl
 have t9:∀ y:At,List.take 9 y.c=y.c:=fun _=>rfl
 have hz:∀ y:At,splice 0 y.c zCells=some y.c:=fun _=>rfl
 have hzz:splice 0 zCells zCells=some zCells:=rfl
 have z9:zCells.length=9:=rfl
 simp only [T10,e9,t9,↓vcPre,↓z0,↓reduceIte,vcPost,vcStd,Nat.reduceEqDiff,reduceCtorEq,Nat.reduceAdd,Nat.reduceLeDiff,Int.reduceLT,Int.reduceLE,↓u_setN]
 refine (c78 a ha).Q ?_
 by_cases hr:atRight a
 ·rw [if_pos hr,if_pos hr]
  cases ok
  ·simp only [T8,hzz,z9,↓vcPre,↓z0,↓reduceIte,vcPost,vcStd,Nat.reduceEqDiff,reduceCtorEq,Nat.reduceAdd,Nat.reduceLeDiff,Int.reduceLT,Int.reduceLE,↓u_setN]
   exact hF _ (za hs h8) (Store.set_same _ _ _) (fun h=>by cases h.1)
  ·simp only [T8,T10,hzz,z9,e9,t9,hz,↓vcPre,↓z0,↓reduceIte,vcPost,vcStd,Nat.reduceEqDiff,reduceCtorEq,Nat.reduceAdd,Nat.reduceLeDiff,Int.reduceLT,Int.reduceLE,↓u_setN]
   exact ⟨fun h=>hF _ (za hs h8) (Store.set_same _ _ _) (fun h2=>by have:=h2.2.2;omega),fun h=>hT _ (za hs h8) (Store.set_same _ _ _) ⟨rfl,hr,by omega⟩⟩
 ·rw [if_neg hr,if_neg hr]
  cases ok
  ·simp only [T8,hzz,z9,↓vcPre,↓z0,↓reduceIte,vcPost,vcStd,Nat.reduceEqDiff,reduceCtorEq,Nat.reduceAdd,Nat.reduceLeDiff,Int.reduceLT,Int.reduceLE,↓u_setN]
   exact hF _ (za hs h8) (Store.set_same _ _ _) (fun h=>hr h.2.1)
  ·simp only [T8,hzz,z9,↓vcPre,↓z0,↓reduceIte,vcPost,vcStd,Nat.reduceEqDiff,reduceCtorEq,Nat.reduceAdd,Nat.reduceLeDiff,Int.reduceLT,Int.reduceLE,↓u_setN]
   exact ⟨fun h=>absurd h (by decide),fun _=>hF _ (za hs h8) (Store.set_same _ _ _) (fun h=>hr h.2.1)⟩
set_option maxHeartbeats 1000000 in
theorem z33 {T:Store} (hk:k<c.ps.length) (hf:c.ps[k].fit) (a:At) (ha:a.ok) (ha2:a.path.length≤900000) (ha3:a.cms.length≤900000) (hr:Rd 4 σ (c.ps.map Peer.c) lv) (T4:T p4=some (.box (c.cV lv))) (T6:T p6=some (.box [.int .u32 q.1,.int .i64 q.2])) (T8:T p8=some (.box zCells)) (T10:T p10=some (.box a.c))
 (h810:¬ p8=p10) (hs:Store.sub σ T) (h8:σ p8=none) (h10:σ p10=none)
 (hT:∀ t',Store.sub σ t'→t' p8=some (.box (tailT c c.ps[k] q a).1.c)→(tailT c c.ps[k] q a).2=true→rr [(8,.ptr p8 0),(9,.bool true)] t')
 (hF:∀ t',Store.sub σ t'→t' p8=some (.box zCells)→tailT c c.ps[k] q a=(zeroAt,false)→rr [(8,.ptr p8 0),(9,.bool false)] t') :
 bwp Tryz.prog Ts25.t41_78 [(1,.int .i64 (k:Int)),(4,.ptr p4 0),(6,.ptr p6 0),(8,.ptr p8 0),(10,.ptr p10 0),(11,.bool (innerA c c.ps[k]))] T n rr xx:=by
 simp only [Ts25.t41_78,yi]
 have e9:∀ y:At,y.c.length=9:=fun _=>rfl
 have t9:∀ y:At,List.take 9 y.c=y.c:=fun _=>rfl
 have sA:∀ y w:At,splice 0 y.c w.c=some y.c:=fun _ _=>rfl
 have hz:∀ y:At,splice 0 y.c zCells=some y.c:=fun _=>rfl
 have hzz:splice 0 zCells zCells=some zCells:=rfl
 have z9:zCells.length=9:=rfl
 have c7:∀ v,(c.cV v).length=7:=fun _=>rfl
 have f0:∀ v,List.take 1 (c.cV v)=[.int .u32 c.asn]:=fun _=>rfl
 have f3:∀ v,List.take 1 (List.drop 3 (c.cV v))=[v]:=fun _=>rfl
 obtain ⟨p,hp,_,hfl⟩:=hr.atf (k:=k) (by simpa using hk)
 have eg:(c.ps.map Peer.c)[k]'(by simpa using hk)=c.ps[k].c:=List.getElem_map ..
 rw [eg] at hfl
 generalize c.ps[k]=y at hfl hf hT hF ⊢
 obtain ⟨p',hp',hrd⟩:=hfl 3 (by simp [Peer.c])
 have hrd':rd T 1 p'=some [.sl 12 (y.out.map Rule.c)]:=hrd T hs 1
 simp only [T4,T6,T10,c7,f0,f3,hp,hp',hrd',e9,t9,↓vcPre,↓z0,↓reduceIte,vcPost,vcStd,Nat.reduceEqDiff,reduceCtorEq,Nat.reduceAdd,Nat.reduceLeDiff,Int.reduceLT,Int.reduceLE,↓u_setN]
 refine (zh0 y.out q c.asn a ha ha2 ha3 hf.2 Rd.sl).Q ?_
 rintro v T ⟨rfl,rfl⟩
 have hok:=up (rs:=y.out) (x:=c.asn) (q:=q) ha ha2 ha3
 unfold tailT at hT hF
 generalize applyA y.out c.asn q a=R at hok hT hF
 have s5:∀ b:At,splice 5 [.bool false] b.c=some ({ b with hp:=false }:At).c:=fun _=>rfl
 have s6:∀ b:At,splice 6 [.int .u32 0] b.c=some ({ b with prf:=0 }:At).c:=fun _=>rfl
 have hokL:(lastT c y R.1).ok:=by unfold lastT;split <;> exact hok
 have hT':∀ t',Store.sub σ t'→t' p8=some (.box (lastT c y R.1).c)→fitT (lastT c y R.1) R.2→rr [(8,.ptr p8 0),(9,.bool true)] t':=fun t' h1 h2 h3=>hT t' h1 (by rw [if_pos h3];exact h2) (by rw [if_pos h3])
 have hF':∀ t',Store.sub σ t'→t' p8=some (.box zCells)→¬ fitT (lastT c y R.1) R.2→rr [(8,.ptr p8 0),(9,.bool false)] t':=fun t' h1 h2 h3=>hF t' h1 h2 (by rw [if_neg h3])
 simp only [T10,sA,e9,↓vcPre,↓z0,↓reduceIte,vcPost,vcStd,Nat.reduceEqDiff,reduceCtorEq,Nat.reduceAdd,Nat.reduceLeDiff,Int.reduceLT,Int.reduceLE,↓u_setN]
 cases hi:innerA c y
 ·have hL:lastT c y R.1={ R.1 with hp:=false,prf:=0 }:=by unfold lastT;rw [hi];rfl
  rw [hL] at hokL hT' hF'
  simp only [s5,s6,e9,↓vcPre,↓z0,↓reduceIte,vcPost,vcStd,Nat.reduceEqDiff,reduceCtorEq,Nat.reduceAdd,Nat.reduceLeDiff,Int.reduceLT,Int.reduceLE,↓u_setN]
  exact z34 (σ:=σ) _ hokL R.2 ((Store.set_ne _ _ h810).trans ((Store.set_ne _ _ h810).trans ((Store.set_ne _ _ h810).trans T8))) (Store.set_same _ _ _) (za (za (za hs h10) h10) h10) h8 _ hT' hF'
 ·have hL:lastT c y R.1=R.1:=by unfold lastT;rw [hi];rfl
  rw [hL] at hokL hT' hF'
  simp only [↓vcPre,↓z0,↓reduceIte,vcPost,vcStd,Nat.reduceEqDiff,reduceCtorEq,Nat.reduceAdd,Nat.reduceLeDiff,Int.reduceLT,Int.reduceLE,↓u_setN]
  exact z34 (σ:=σ) _ hokL R.2 ((Store.set_ne _ _ h810).trans T8) (Store.set_same _ _ _) (za hs h10) h8 _ hT' hF'
end
end Go.Am
namespace Go.Am
open Go.Proofs Go.Sort
def startT (c:Cfg) (p:Peer) (a:At):At :=
 if innerA c p then { canonA a with hp:=true,prf:=if (canonA a).hp then (canonA a).prf else 100 } else { canonA a with path:=preA c.asn 1 (canonA a).path,nxt:=c.id,hm:=false,med:=0,hp:=false,prf:=0 }
def toldA (c:Cfg) (k:Int) (q:Int×Int) (b:PathR):At×Bool :=
 if chkA c=0∧0≤k then match c.ps[k.toNat]? with
  | none=>(zeroAt,false)
  | some p=>if rightF q.1 q.2=true∧atRight b.a∧hiddenA c k p b=false then tailT c p q (startT c p b.a) else (zeroAt,false)
 else (zeroAt,false)
set_option maxHeartbeats 2000000 in
set_option maxRecDepth 20000 in
theorem s41 {σ:Store} (c:Cfg) (hf:∀ p ∈ c.ps,p.fit) (k:Int) (q:Int×Int) (b:PathR) (hb:b.a.ok) {lv:AV} (hr:Rd 4 σ (c.ps.map Peer.c) lv) :
 ACalls Tryz.prog 41 [.agg (c.cV lv),.int .i64 k,.agg [.int .u32 q.1,.int .i64 q.2],.agg b.c] σ (fun r s=>s=σ∧r = .tup [.agg (toldA c k q b).1.c,.bool (toldA c k q b).2]):=by
 refine zi Ts25.F41 (by simp [Ts25.F41,Fn.mkX]) ?_
 simp only [Ts25.F41,Fn.mkX,Ts25.b41,yi]
 have e9:∀ y:At,y.c.length=9:=fun _=>rfl
 have t9:∀ y:At,List.take 9 y.c=y.c:=fun _=>rfl
 have sA:∀ y w:At,splice 0 y.c w.c=some y.c:=fun _ _=>rfl
 have hz:∀ y:At,splice 0 y.c zCells=some y.c:=fun _=>rfl
 have hzz:splice 0 zCells zCells=some zCells:=rfl
 have z9:zCells.length=9:=rfl
 have y9:List.take 9 zCells=zCells:=rfl
 have c7:∀ v,(c.cV v).length=7:=fun _=>rfl
 have t7:∀ v,List.take 7 (c.cV v)=c.cV v:=fun _=>rfl
 have f0:∀ v,List.take 1 (c.cV v)=[.int .u32 c.asn]:=fun _=>rfl
 have f1:∀ v,List.take 1 (List.drop 1 (c.cV v))=[.int .u32 c.id]:=fun _=>rfl
 have f3:∀ v,List.take 1 (List.drop 3 (c.cV v))=[v]:=fun _=>rfl
 have b13:b.c.length=13:=rfl
 have tb13:List.take 13 b.c=b.c:=rfl
 have tb4:List.take 9 (List.drop 4 b.c)=b.a.c:=rfl
 have hlen:=hr.2
 rw [List.length_map] at hlen
 simp only [↓vcPre,↓z0,↓reduceIte,vcPost,vcStd,Nat.reduceEqDiff,reduceCtorEq,Nat.reduceAdd,Nat.reduceLeDiff,Int.reduceLT,Int.reduceLE,↓u_setN]
 refine AllocQ.i0 fun p4 h4 => ?_
 simp only [↓vcPre,↓z0,↓reduceIte,vcPost,vcStd,Nat.reduceEqDiff,reduceCtorEq,Nat.reduceAdd,Nat.reduceLeDiff,Int.reduceLT,Int.reduceLE,↓u_setN]
 refine AllocQ.i1 fun p6 h64 h46 h6 => ?_
 simp only [↓vcPre,↓z0,↓reduceIte,vcPost,vcStd,Nat.reduceEqDiff,reduceCtorEq,Nat.reduceAdd,Nat.reduceLeDiff,Int.reduceLT,Int.reduceLE,↓u_setN]
 refine AllocQ.i2 fun p7 h74 h47 h76 h67 h7 => ?_
 simp only [↓vcPre,↓z0,↓reduceIte,vcPost,vcStd,Nat.reduceEqDiff,reduceCtorEq,Nat.reduceAdd,Nat.reduceLeDiff,Int.reduceLT,Int.reduceLE,↓u_setN]
 refine AllocQ.i0 fun p8 h8' => ?_
 have s3:Store.sub σ (((σ.set p4 (.box (c.cV lv))).set p6 (.box [.int .u32 q.1,.int .i64 q.2])).set p7 (.box b.c)):=za (zn h4 h6 h64) h7
 have sT:=Store.sub_trans s3 (Store.sub_set _ p8 (.box zCells) h8')
 have h8:σ p8=none:=zm s3 h8'
 have A7:=Store.set_same ((σ.set p4 (.box (c.cV lv))).set p6 (.box [.int .u32 q.1,.int .i64 q.2])) p7 (.box b.c)
 have A6:(((σ.set p4 (.box (c.cV lv))).set p6 (.box [.int .u32 q.1,.int .i64 q.2])).set p7 (.box b.c)) p6=some (.box [.int .u32 q.1,.int .i64 q.2]):=by rw [Store.set_ne _ _ h67];exact Store.set_same _ _ _
 have A4:(((σ.set p4 (.box (c.cV lv))).set p6 (.box [.int .u32 q.1,.int .i64 q.2])).set p7 (.box b.c)) p4=some (.box (c.cV lv)):=by rw [Store.set_ne _ _ h47,Store.set_ne _ _ h46];exact Store.set_same _ _ _
 have T7:=Store.sub_set _ p8 (.box zCells) h8' _ _ A7
 have T6:=Store.sub_set _ p8 (.box zCells) h8' _ _ A6
 have T4:=Store.sub_set _ p8 (.box zCells) h8' _ _ A4
 have T8:=Store.set_same (((σ.set p4 (.box (c.cV lv))).set p6 (.box [.int .u32 q.1,.int .i64 q.2])).set p7 (.box b.c)) p8 (.box zCells)
 generalize (((σ.set p4 (.box (c.cV lv))).set p6 (.box [.int .u32 q.1,.int .i64 q.2])).set p7 (.box b.c)).set p8 (.box zCells)=T at sT T4 T6 T7 T8 ⊢
 have no:toldA c k q b=(zeroAt,false) → @EndQ [(8,.ptr p8 0),(9,.bool false)] (T.set p8 (.box zCells)) ⟨Ts25.F41.slots,fun r s=>s=σ∧r = .tup [.agg (toldA c k q b).1.c,.bool (toldA c k q b).2]⟩:=fun h=>by
  rw [h]
  refine EndQ.two (.agg zCells) (.bool false) σ ?_ ?_
  ·show Env.res [(8,AV.ptr p8 0),(9,.bool false)] _ [RS.c 8 9 true,RS.t 9]=_
   simp only [Store.set_same,z9,y9,Nat.le_refl,↓vcPre,↓z0,↓reduceIte,vcPost,vcStd,Nat.reduceEqDiff,reduceCtorEq,Nat.reduceAdd,Nat.reduceLeDiff,Int.reduceLT,Int.reduceLE,↓u_setN]
  ·exact WeakL.pos 0 rfl (v8 (WeakL.forget (za sT h8) (WeakL.pure ⟨rfl,rfl⟩)))
 simp only [T4,c7,t7,↓vcPre,↓z0,↓reduceIte,vcPost,vcStd,Nat.reduceEqDiff,reduceCtorEq,Nat.reduceAdd,Nat.reduceLeDiff,Int.reduceLT,Int.reduceLE,↓u_setN]
 refine (s70 c hf (hr.mono sT)).Q ?_
 rintro v T ⟨rfl,rfl⟩
 have hc:¬ chkA c=0→toldA c k q b=(zeroAt,false):=fun h=>by unfold toldA;rw [if_neg (fun x=>h x.1)]
 have hk0:k<0→toldA c k q b=(zeroAt,false):=fun h=>by unfold toldA;rw [if_neg (fun x=>by omega)]
 simp only [T8,hzz,z9,T4,c7,f3,hlen,↓vcPre,↓z0,↓reduceIte,vcPost,vcStd,Nat.reduceEqDiff,reduceCtorEq,Nat.reduceAdd,Nat.reduceLeDiff,Int.reduceLT,Int.reduceLE,↓u_setN]
 refine ⟨fun g1=>⟨fun g2=>⟨fun g3 => ?_,fun g3 => ?_⟩,fun g2=>no (hk0 g2)⟩,fun g1=>no (hc g1)⟩
 ·obtain ⟨m,rfl⟩:∃ m:Nat,k=(m:Int):=⟨k.toNat,by omega⟩
  have hm:m<c.ps.length:=by omega
  have hget:c.ps[(m:Int).toNat]? = some c.ps[m]:=by rw [Int.toNat_natCast];exact List.getElem?_eq_getElem hm
  have hA:toldA c m q b=if rightF q.1 q.2=true∧atRight b.a∧hiddenA c m c.ps[m] b=false then tailT c c.ps[m] q (startT c c.ps[m] b.a) else (zeroAt,false):=by
   unfold toldA;rw [if_pos ⟨g1,by omega⟩,hget]
  simp only [T6,↓vcPre,↓z0,↓reduceIte,vcPost,vcStd,Nat.reduceEqDiff,reduceCtorEq,Nat.reduceAdd,Nat.reduceLeDiff,Int.reduceLT,Int.reduceLE,↓u_setN]
  refine (c71 q.1 q.2).Q ?_
  cases hq:rightF q.1 q.2
  ·simp only [T8,hzz,z9,↓vcPre,↓z0,↓reduceIte,vcPost,vcStd,Nat.reduceEqDiff,reduceCtorEq,Nat.reduceAdd,Nat.reduceLeDiff,Int.reduceLT,Int.reduceLE,↓u_setN]
   exact no (by rw [hA,if_neg (fun h=>by rw [hq] at h;cases h.1)])
  ·simp only [T7,b13,tb4,↓vcPre,↓z0,↓reduceIte,vcPost,vcStd,Nat.reduceEqDiff,reduceCtorEq,Nat.reduceAdd,Nat.reduceLeDiff,Int.reduceLT,Int.reduceLE,↓u_setN]
   refine (c72 b.a hb).Q ?_
   by_cases har:atRight b.a
   ·rw [show decide (atRight b.a)=true by simpa using har]
    simp only [T4,T7,c7,t7,b13,tb13,↓vcPre,↓z0,↓reduceIte,vcPost,vcStd,Nat.reduceEqDiff,reduceCtorEq,Nat.reduceAdd,Nat.reduceLeDiff,Int.reduceLT,Int.reduceLE,↓u_setN]
    refine (s73 c m hm b hb.2.2 (hr.mono sT)).Q ?_
    rintro v T ⟨rfl,rfl⟩
    cases hh:hiddenA c m c.ps[m] b
    ·have hA2:toldA c m q b=tailT c c.ps[m] q (startT c c.ps[m] b.a):=by rw [hA,if_pos ⟨hq,har,hh⟩]
     simp only [T7,b13,tb4,↓vcPre,↓z0,↓reduceIte,vcPost,vcStd,Nat.reduceEqDiff,reduceCtorEq,Nat.reduceAdd,Nat.reduceLeDiff,Int.reduceLT,Int.reduceLE,↓u_setN]
     refine (c74 b.a hb).Q ?_
     simp only [↓vcPre,↓z0,↓reduceIte,vcPost,vcStd,Nat.reduceEqDiff,reduceCtorEq,Nat.reduceAdd,Nat.reduceLeDiff,Int.reduceLT,Int.reduceLE,↓u_setN]
     refine AllocQ.i0 fun p10 h10 => ?_
     have h810:¬ p8=p10:=fun e=>by subst e;rw [T8] at h10;cases h10
     simp only [hz,e9,↓vcPre,↓z0,↓reduceIte,vcPost,vcStd,Nat.reduceEqDiff,reduceCtorEq,Nat.reduceAdd,Nat.reduceLeDiff,Int.reduceLT,Int.reduceLE,↓u_setN]
     have σ10:=zm sT h10
     have sU:Store.sub T ((T.set p10 (.box zCells)).set p10 (.box (canonA b.a).c)):=za (Store.sub_set _ _ _ h10) h10
     have U10:=Store.set_same (T.set p10 (.box zCells)) p10 (.box (canonA b.a).c)
     generalize (T.set p10 (.box zCells)).set p10 (.box (canonA b.a).c)=U at sU U10 ⊢
     have U4:=sU _ _ T4
     have U6:=sU _ _ T6
     have U8:=sU _ _ T8
     have sU2:=Store.sub_trans sT sU
     have hcan:(canonA b.a).ok:=y0 hb
     have hcp:(canonA b.a).path.length≤16:=har.2.1.2
     have hcc:(canonA b.a).cms.length≤32:=by have:=x5 b.a.cms;have:=har.2.2.2.2.2.1;simp only [canonA];omega
     have hSA:startT c c.ps[m] b.a=if innerA c c.ps[m] then { canonA b.a with hp:=true,prf:=if (canonA b.a).hp then (canonA b.a).prf else 100 } else { canonA b.a with path:=preA c.asn 1 (canonA b.a).path,nxt:=c.id,hm:=false,med:=0,hp:=false,prf:=0 }:=rfl
     generalize canonA b.a=a0 at U10 hcan hcp hcc hSA
     obtain ⟨p,hp,_,hfl⟩:=hr.atf (k:=m) (by simpa using hm)
     have eg:(c.ps.map Peer.c)[m]'(by simpa using hm)=c.ps[m].c:=List.getElem_map ..
     rw [eg] at hfl
     obtain ⟨p',hp',hrd⟩:=hfl 0 (by simp [Peer.c])
     have hrd':rd U 1 p'=some [.int .u32 c.ps[m].asn]:=hrd U sU2 1
     have hin:decide (c.ps[m].asn=c.asn)=innerA c c.ps[m]:=rfl
     have hT:∀ t',Store.sub σ t'→t' p8=some (.box (tailT c c.ps[m] q (startT c c.ps[m] b.a)).1.c)→(tailT c c.ps[m] q (startT c c.ps[m] b.a)).2=true → @EndQ [(8,.ptr p8 0),(9,.bool true)] t' ⟨Ts25.F41.slots,fun r s=>s=σ∧r = .tup [.agg (toldA c m q b).1.c,.bool (toldA c m q b).2]⟩:=fun t' w1 w2 w3=>by
      rw [hA2]
      refine EndQ.to σ (.tup [.agg (tailT c c.ps[m] q (startT c c.ps[m] b.a)).1.c,.bool true]) ?_ w1 ⟨rfl,by rw [w3]⟩
      show Env.res [(8,AV.ptr p8 0),(9,.bool true)] _ [RS.c 8 9 true,RS.t 9]=_
      simp only [w2,e9,t9,Nat.le_refl,↓vcPre,↓z0,↓reduceIte,vcPost,vcStd,Nat.reduceEqDiff,reduceCtorEq,Nat.reduceAdd,Nat.reduceLeDiff,Int.reduceLT,Int.reduceLE,↓u_setN]
     have hF:∀ t',Store.sub σ t'→t' p8=some (.box zCells)→tailT c c.ps[m] q (startT c c.ps[m] b.a)=(zeroAt,false) → @EndQ [(8,.ptr p8 0),(9,.bool false)] t' ⟨Ts25.F41.slots,fun r s=>s=σ∧r = .tup [.agg (toldA c m q b).1.c,.bool (toldA c m q b).2]⟩:=fun t' w1 w2 w3=>by
      rw [hA2,w3]
      refine EndQ.two (.agg zCells) (.bool false) σ ?_ ?_
      ·show Env.res [(8,AV.ptr p8 0),(9,.bool false)] _ [RS.c 8 9 true,RS.t 9]=_
       simp only [w2,z9,y9,Nat.le_refl,↓vcPre,↓z0,↓reduceIte,vcPost,vcStd,Nat.reduceEqDiff,reduceCtorEq,Nat.reduceAdd,Nat.reduceLeDiff,Int.reduceLT,Int.reduceLE,↓u_setN]
      ·exact WeakL.pos 0 rfl (v8 (WeakL.forget w1 (WeakL.pure ⟨rfl,rfl⟩)))
     have hfk:=hf _ (List.getElem_mem hm)
     clear hfl hrd
     have b1:∀ b:At,List.take 1 (List.drop 1 b.c)=[.sl 2 (b.path.map Seg.c)]:=fun _=>rfl
     have s1:∀ (b:At) P,splice 1 [.sl 2 (P.map Seg.c)] b.c=some ({ b with path:=P }:At).c:=fun _ _=>rfl
     have s2:∀ (b:At) x,splice 2 [.int .u32 x] b.c=some ({ b with nxt:=x }:At).c:=fun _ _=>rfl
     have s3:∀ (b:At) x,splice 3 [.bool x] b.c=some ({ b with hm:=x }:At).c:=fun _ _=>rfl
     have s4:∀ (b:At) x,splice 4 [.int .u32 x] b.c=some ({ b with med:=x }:At).c:=fun _ _=>rfl
     have s5:∀ (b:At) x,splice 5 [.bool x] b.c=some ({ b with hp:=x }:At).c:=fun _ _=>rfl
     have s6:∀ (b:At) x,splice 6 [.int .u32 x] b.c=some ({ b with prf:=x }:At).c:=fun _ _=>rfl
     simp only [U4,c7,f0,f3,hp,hp',hrd',↓vcPre,↓z0,↓reduceIte,vcPost,vcStd,Nat.reduceEqDiff,reduceCtorEq,Nat.reduceAdd,Nat.reduceLeDiff,Int.reduceLT,Int.reduceLE,↓u_setN]
     by_cases hi:c.ps[m].asn=c.asn
     ·have hi':innerA c c.ps[m]=true:=by simpa [innerA] using hi
      rw [hi',if_pos rfl] at hSA
      rw [hSA] at hT hF
      refine ⟨fun _ => ?_,fun h=>absurd hi h⟩
      simp only [U10,e9,t9,↓vcPre,↓z0,↓reduceIte,vcPost,vcStd,Nat.reduceEqDiff,reduceCtorEq,Nat.reduceAdd,Nat.reduceLeDiff,Int.reduceLT,Int.reduceLE,↓u_setN]
      refine (c75 a0).Q ?_
      simp only [U10,e9,s5,s6,↓vcPre,↓z0,↓reduceIte,vcPost,vcStd,Nat.reduceEqDiff,reduceCtorEq,Nat.reduceAdd,Nat.reduceLeDiff,Int.reduceLT,Int.reduceLE,↓u_setN]
      rw [show decide (c.ps[m].asn=c.asn)=innerA c c.ps[m] from rfl]
      simp only [Store.set_set]
      have n410:¬ p4=p10:=fun e=>by subst e;rw [T4] at h10;cases h10
      have n610:¬ p6=p10:=fun e=>by subst e;rw [T6] at h10;cases h10
      refine z33 (σ:=σ) hm hfk { a0 with hp:=true,prf:=if a0.hp then a0.prf else 100 } hcan (by simp only;omega) (by simp only;omega) hr ((Store.set_ne _ _ n410).trans U4) ((Store.set_ne _ _ n610).trans U6) ((Store.set_ne _ _ h810).trans U8) (Store.set_same _ _ _) h810 (za sU2 σ10) h8 σ10 hT hF
     ·have hi':innerA c c.ps[m]=false:=by simpa [innerA] using hi
      rw [hi'] at hSA
      simp only [Bool.false_eq_true,if_false] at hSA
      rw [hSA] at hT hF
      refine ⟨fun h=>absurd h hi,fun _ => ?_⟩
      simp only [U10,U4,e9,t9,b1,c7,f0,↓vcPre,↓z0,↓reduceIte,vcPost,vcStd,Nat.reduceEqDiff,reduceCtorEq,Nat.reduceAdd,Nat.reduceLeDiff,Int.reduceLT,Int.reduceLE,↓u_setN]
      have h16:=xn c.asn 1 a0.path
      have hpo:=wo c.asn 1 a0.path hcan.2.1
      have hpp:=zbp a0.path hcan.1 hcan.2.1 c.asn 1
      rw [show preN 1=1 from rfl] at hpp
      refine hpp.Q ?_
      have n410:¬ p4=p10:=fun e=>by subst e;rw [T4] at h10;cases h10
      simp only [U10,U4,e9,s1,s2,s3,s4,s5,s6,n410,c7,f1,↓vcPre,↓z0,↓reduceIte,vcPost,vcStd,Nat.reduceEqDiff,reduceCtorEq,Nat.reduceAdd,Nat.reduceLeDiff,Int.reduceLT,Int.reduceLE,↓u_setN]
      rw [show decide (c.ps[m].asn=c.asn)=innerA c c.ps[m] from rfl]
      simp only [Store.set_set]
      have n610:¬ p6=p10:=fun e=>by subst e;rw [T6] at h10;cases h10
      refine z33 (σ:=σ) hm hfk { a0 with path:=preA c.asn 1 a0.path,nxt:=c.id,hm:=false,med:=0,hp:=false,prf:=0 } ⟨by simp only;omega,hpo,hcan.2.2⟩ (by simp only;omega) (by simp only;omega) hr ((Store.set_ne _ _ n410).trans U4) ((Store.set_ne _ _ n610).trans U6) ((Store.set_ne _ _ h810).trans U8) (Store.set_same _ _ _) h810 (za sU2 σ10) h8 σ10 hT hF
    ·simp only [T8,hzz,z9,↓vcPre,↓z0,↓reduceIte,vcPost,vcStd,Nat.reduceEqDiff,reduceCtorEq,Nat.reduceAdd,Nat.reduceLeDiff,Int.reduceLT,Int.reduceLE,↓u_setN]
     exact no (by rw [hA,if_neg (fun h=>by rw [hh] at h;cases h.2.2)])
   ·rw [show decide (atRight b.a)=false by simpa using har]
    simp only [T8,hzz,z9,↓vcPre,↓z0,↓reduceIte,vcPost,vcStd,Nat.reduceEqDiff,reduceCtorEq,Nat.reduceAdd,Nat.reduceLeDiff,Int.reduceLT,Int.reduceLE,↓u_setN]
    exact no (by rw [hA,if_neg (fun h=>har h.2.1)])
 ·refine no ?_
  unfold toldA
  by_cases hx:chkA c=0∧0≤k
  ·rw [if_pos hx,List.getElem?_eq_none (by omega)]
  ·rw [if_neg hx]
end Go.Am
namespace Go.Am.Ts26
open Go.Proofs Go.Am.B
def t13_63:BC := .wk 11 (.ops [f 63 3 3,l 64 1 63,⟨some 65,none,.load (.ld 4 true),[.t 5]⟩,⟨some 66,none,.alloc (.mksl 4 1),[.t 65]⟩,⟨some 67,none,.loud (.app 4 56),[.t 64,.t 66]⟩,f 68 3 3,s 1 68 67] [1,2,3,4])
def t13_47:BC:=z [f 47 3 1,l 48 1 47,m 49 4,x 50 4 48 49,f 51 2 50,l 52 1 51,g 53 38 [.t 52],f 54 2 5,s 1 54 53] [1,2,3,4,5] (.ops [f 55 3 1,l 56 1 55,m 57 4,x 58 4 56 57,f 59 3 58,l 60 1 59,g 61 38 [.t 60],f 62 3 5,s 1 62 61] [1,2,3,4,5])
def b13:BC:=z [⟨some 1,none,.alloc (.box),[.t 0]⟩,⟨some 2,none,.alloc (.alloc [(.int .u32 0),(.int .u32 0),(.int .i64 0),.nils,(.int .i64 0),(.int .i64 0),(.int .i64 0)]),[]⟩] [1,2] (z [f 6 4 1,f 10 5 1,l 7 1 6,l 11 1 10,⟨some 8,none,.qcall 22,[.t 7,.c (.int .i64 0),.c (.int .i64 3)]⟩,p 9 (.bin .add) [.c (.int .i64 1),.t 8],⟨some 12,none,.qcall 22,[.t 11,.c (.int .i64 0),.c (.int .i64 3)]⟩,p 13 (.bin .add) [.c (.int .i64 1),.t 12],p 14 (.build [(.int .u32 0),(.int .u32 0),(.int .i64 0),.nils,(.int .i64 0),(.int .i64 0),(.int .i64 0)] [(0,1),(1,1),(2,1),(4,1),(5,1),(6,1)]) [.c (.int .u32 65000),.c (.int .u32 16843009),.c (.int .i64 90),.t 9,.t 13,.c (.int .i64 300)],⟨some 3,none,.alloc (.alloc [(.int .u32 0),(.int .u32 0),(.int .i64 0),.nils,(.int .i64 0),(.int .i64 0),(.int .i64 0)]),[]⟩,s 7 3 14] [1,2,3] (.seq (z [j 4 0] [1,2,3,4] (.block 0 (.loop [1,2,3,4] (.seq (z [m 15 4,f 16 3 1,l 17 1 16,u 18 .len 17,g 19 22 [.t 18,.c (.int .i64 0),.c (.int .i64 3)],p 20 (.bin .add) [.c (.int .i64 1),.t 19],b 21 .lss 15 20] [1,2,3,4,21] (.cond (.t 21) .skip (.exit 0))) (.seq (.block 1 (z [m 24 4,c 25 .quo 24 2,u 26 (.conv .u32) 25,p 27 (.bin .add) [.c (.int .u32 65001),.t 26],m 28 4,u 29 (.conv .u32) 28,p 30 (.bin .add) [.c (.int .u32 33686016),.t 29],p 31 (.bin .add) [.t 30,.c (.int .u32 1)],p 32 (.build [(.int .u32 0),(.int .u32 0),.nils,.nils] [(0,1),(1,1)]) [.t 27,.t 31],⟨some 5,none,.alloc (.alloc [(.int .u32 0),(.int .u32 0),.nils,.nils]),[]⟩,s 4 5 32] [1,2,3,4,5] (.seq (z [m 33 4,f 34 3 1,l 35 1 34,u 36 .len 35,b 37 .lss 33 36] [1,2,3,4,5,37] (.cond (.t 37) (.seq (z [f 38 3 1,l 39 1 38,m 40 4,x 41 4 39 40,f 42 0 41,l 43 1 42,p 44 (.bin .rem) [.t 43,.c (.int .u32 3)],p 45 (.bin .eql) [.t 44,.c (.int .u32 0)]] [1,2,3,4,5,45] (.cond (.t 45) (.ops [f 46 0 5,⟨none,none,.loud (.st 1),[.t 46,.c (.int .u32 65000)]⟩] [1,2,3,4,5]) .skip)) t13_47) .skip)) t13_63))) (.ops [m 22 4,c 23 .add 22 1,m 4 23] [1,2,3,4])))))) (z [⟨some 69,none,.load (.ld 7 true),[.t 3]⟩,s 7 2 69] [2] .ret)))
def F13:Fn Tryz.prog 13:=Fn.mkW false [11] b13 [.c 2 7 true] 70 Tryz.f13 _ Tryz.func13 (by decide) rfl Tryz.ntmps13 (by kernel_rfl) (by kernel_rfl)
end Go.Am.Ts26
namespace Go.Am
open Go.Proofs Go.Sort
theorem Sim.arrImp {G:Gh} {σ:Store} {w:World} (hs:Sim G σ w) {g esz:Nat} {es es':List (List AV)} (hg:σ g=some (.arr esz es)) (hi:Rels ImpL es es'):Sim G (σ.set g (.arr esz es')) w∧Ext G σ w G (σ.set g (.arr esz es')) w :=
 hs.obj (o' := .arr esz es') hg (fun b' base' hb' ho'=>by
  cases ho' with
  | arr hh hsz hl hf hvv =>
    have hlen:=hi.length
    have hget:∀ k (h:k<es'.length),ImpL (es[k]'(by rw [hlen];exact h)) es'[k]:=fun k h=>by
     obtain ⟨b,hb,hr⟩:=hi.get k _ (List.getElem?_eq_getElem (by rw [hlen];exact h))
     rw [List.getElem?_eq_getElem h] at hb;cases hb;exact hr
    refine .arr hh (by rw [←hlen];exact hsz) (fun x hx => ?_) (fun x hx c hcx => ?_) (fun a d hA hB => ?_)
    ·obtain ⟨k,hk,rfl⟩:=List.getElem_of_mem hx
     rw [←(hget k hk).length];exact hl _ (List.getElem_mem _)
    ·obtain ⟨k,hk,rfl⟩:=List.getElem_of_mem hx
     exact (hget k hk).flat c hcx
    ·have h1:=hget a hA
     have hd:d<(es[a]'(by rw [hlen];exact hA)).length:=by rw [h1.length];exact hB
     obtain ⟨b,hb,hr⟩:=h1.get d _ (List.getElem?_eq_getElem hd)
     rw [List.getElem?_eq_getElem hB] at hb;cases hb
     exact hr.2 _ _ _ (hvv a d (by rw [hlen];exact hA) hd))
theorem WeakL.arrImp {l:List AV} {σ:Store} {Q:List AV→Store→Prop} (g:Nat) {esz:Nat} {es es':List (List AV)} (hg:σ g=some (.arr esz es)) (hi:Rels ImpL es es') (h:WeakL l (σ.set g (.arr esz es')) Q):WeakL l σ Q:=fun G w vs hs hr=>by
 obtain ⟨h4,h5⟩:=hs.arrImp hg hi
 obtain ⟨G2,e2,σ2,g1,g2,g3,g4⟩:=h G w vs h4 hr
 exact ⟨G2,e2,σ2,h5.trans g1,g2,g3,g4⟩
def peerK (ps:List Peer) (i:Nat):Peer:=match ps[i]? with
 | none=>⟨65001+(i / 2:Nat),33686017+(i:Int),[],[]⟩
 | some p=>⟨if Int.tmod p.asn 3=0 then 65000 else 65001+(i / 2:Nat),33686017+(i:Int),rulesK p.inn,rulesK p.out⟩
def countK (n:Nat):Nat:=1+n % 4
def configK (c:Cfg):Cfg:=⟨65000,16843009,90,(List.range (countK c.ps.length)).map (peerK c.ps),1+c.wd % 4,1+c.dp % 4,300⟩
def cV0 (c:Cfg) (v:AV):List AV:=[.int .u32 65000,.int .u32 16843009,.int .i64 90,v,.int .i64 (1+c.wd % 4),.int .i64 (1+c.dp % 4),.int .i64 300]
structure Cfg.Ok (c:Cfg):Prop where
 wd:I64 c.wd
 dp:I64 c.dp
 sm:Small c.ps
 rl:∀ p ∈ c.ps,(∀ r ∈ p.inn,r.ok)∧(∀ r ∈ p.out,r.ok)
 ft:∀ p ∈ c.ps,p.fit
section
variable {c:Cfg} {σ:Store} {n rr:Env→Store→Prop} {xx:Nat→Env→Store→Prop} {p1 p2 p3 p5:Nat} {lv v:AV} {k:Nat}
theorem z0e {T:Store} {L:List (List AV)} (y:Peer) (z:List AV) (hz:ImpL z y.c) (hz4:z.length=4) (T3:T p3=some (.box (cV0 c v))) (T5:T p5=some (.box z)) (n35:¬ p3=p5) (ho:Own 4 σ L v T) (hs:Store.sub σ T) (h3:σ p3=none) (h5:σ p5=none) (hL:L.length≤10) (E:List (Nat×AV)) (e0:Env) (he:e0=(1,.ptr p1 0)::(2,.ptr p2 0)::(3,.ptr p3 0)::(4,.int .i64 (k:Int))::(5,.ptr p5 0)::E)
 (hn:∀ v' T',Store.sub σ T'→T' p3=some (.box (cV0 c v'))→Own 4 σ (L++[y.c]) v' T'→(∀ q o,T q=some (.box o)→¬ q=p3→¬ q=p5→T' q=some (.box o))→n [(1,.ptr p1 0),(2,.ptr p2 0),(3,.ptr p3 0),(4,.int .i64 (k:Int))] T'):bwp Tryz.prog Ts26.t13_63 e0 T n rr xx:=by
 subst he
 simp only [Ts26.t13_63]
 have c7:∀ v,(cV0 c v).length=7:=fun _=>rfl
 have f3:∀ v,List.take 1 (List.drop 3 (cV0 c v))=[v]:=fun _=>rfl
 have s3:∀ v w,splice 3 [w] (cV0 c v)=some (cV0 c w):=fun _ _=>rfl
 have e4:y.c.length=4:=rfl
 have t4:List.take 4 y.c=y.c:=rfl
 simp only [↓vcPre,↓z0,↓reduceIte,vcPost,vcStd,Nat.reduceEqDiff,reduceCtorEq,Nat.reduceAdd,Nat.reduceLeDiff,Int.reduceLT,Int.reduceLE,↓u_setN]
 refine WkQ.of (WeakE.boxImp p5 T5 hz (WeakE.pure ?_))
 have U5:=Store.set_same T p5 (.box y.c)
 have U3:=(Store.set_ne T (.box y.c) n35).trans T3
 have sU:Store.sub σ (T.set p5 (.box y.c)):=za hs h5
 have hoU:Own 4 σ L v (T.set p5 (.box y.c)):=ho.setId T5 (fun M e=>by cases e)
 have kU:∀ q o,T q=some (.box o)→¬ q=p3→¬ q=p5→(T.set p5 (.box y.c)) q=some (.box o):=fun q o h _ h2=>by rw [Store.set_ne _ _ h2];exact h
 show bwp _ _ _ (T.set p5 (.box y.c)) _ _ _
 generalize T.set p5 (.box y.c)=U at U5 U3 sU hoU kU ⊢
 simp only [U3,U5,c7,f3,e4,t4,↓vcPre,↓z0,↓reduceIte,vcPost,vcStd,Nat.reduceEqDiff,reduceCtorEq,Nat.reduceAdd,Nat.reduceLeDiff,Int.reduceLT,Int.reduceLE,↓u_setN]
 refine AllocQ.i0 fun d hd => ?_
 have sd:=Store.sub_set U d (.arr 4 [y.c]) hd
 simp only [t4,↓vcPre,↓z0,↓reduceIte,vcPost,vcStd,Nat.reduceEqDiff,reduceCtorEq,Nat.reduceAdd,Nat.reduceLeDiff,Int.reduceLT,Int.reduceLE,↓u_setN]
 refine Own.appP (τ:=σ) (ys:=[y.c]) (Store.sub_trans sU sd) (hoU.mono sd) (zq (Store.set_same _ _ _) rfl) (by simp;omega) fun v' s' q1 q2 q3 => ?_
 have m3:=q3 _ _ (sd _ _ U3) (fun M e=>by cases e)
 obtain ⟨hw1,hw2⟩:=q2.cell
 simp only [m3,hw1,hw2,c7,s3,↓vcPre,↓z0,↓reduceIte,vcPost,vcStd,Nat.reduceEqDiff,reduceCtorEq,Nat.reduceAdd,Nat.reduceLeDiff,Int.reduceLT,Int.reduceLE,↓u_setN]
 exact hn v' _ (za q1 h3) (Store.set_same _ _ _) (q2.setId m3 (fun M e=>by cases e)) fun q o h a1 a2=>by
  rw [Store.set_ne _ _ a1]
  exact q3 _ _ (sd _ _ (kU q o h a1 a2)) (fun M e=>by cases e)
theorem z30 {T:Store} (hk:k<c.ps.length) (hro:(∀ r ∈ c.ps[k].inn,r.ok)∧(∀ r ∈ c.ps[k].out,r.ok)) (x y:Int) (hr:Rd 4 σ (c.ps.map Peer.c) lv) (T1:T p1=some (.box (c.cV lv))) (T5:T p5=some (.box [.int .u32 x,.int .u32 y,.nils,.nils])) (n15:¬ p1=p5) (hs:Store.sub σ T) (h5:σ p5=none) (E:List (Nat×AV))
 (hn:n [(1,.ptr p1 0),(2,.ptr p2 0),(3,.ptr p3 0),(4,.int .i64 (k:Int)),(5,.ptr p5 0)] (T.set p5 (.box (⟨x,y,rulesK c.ps[k].inn,rulesK c.ps[k].out⟩:Peer).c))):bwp Tryz.prog Ts26.t13_47 ((1,.ptr p1 0)::(2,.ptr p2 0)::(3,.ptr p3 0)::(4,.int .i64 (k:Int))::(5,.ptr p5 0)::E) T n rr xx:=by
 simp only [Ts26.t13_47]
 have c7:∀ v,(c.cV v).length=7:=fun _=>rfl
 have f3:∀ v,List.take 1 (List.drop 3 (c.cV v))=[v]:=fun _=>rfl
 obtain ⟨p,hp,_,hfl⟩:=hr.atf (k:=k) (by simpa using hk)
 have eg:(c.ps.map Peer.c)[k]'(by simpa using hk)=c.ps[k].c:=List.getElem_map ..
 rw [eg] at hfl
 generalize c.ps[k]=z at hfl hro hn
 obtain ⟨a2,ha2,hr2⟩:=hfl 2 (by simp [Peer.c])
 obtain ⟨a3,ha3,hr3⟩:=hfl 3 (by simp [Peer.c])
 have hr2':∀ t,Store.sub σ t→rd t 1 a2=some [.sl 12 (z.inn.map Rule.c)]:=fun t ht=>hr2 t ht 1
 have hr3':∀ t,Store.sub σ t→rd t 1 a3=some [.sl 12 (z.out.map Rule.c)]:=fun t ht=>hr3 t ht 1
 have s2:splice 2 [.sl 12 ((rulesK z.inn).map Rule.c)] [AV.int .u32 x,.int .u32 y,.nils,.nils]=some [.int .u32 x,.int .u32 y,.sl 12 ((rulesK z.inn).map Rule.c),.nils]:=rfl
 have s3:splice 3 [.sl 12 ((rulesK z.out).map Rule.c)] [.int .u32 x,.int .u32 y,.sl 12 ((rulesK z.inn).map Rule.c),.nils]=some (⟨x,y,rulesK z.inn,rulesK z.out⟩:Peer).c:=rfl
 simp only [T1,c7,f3,hp,ha2,hr2' T hs,↓vcPre,↓z0,↓reduceIte,vcPost,vcStd,Nat.reduceEqDiff,reduceCtorEq,Nat.reduceAdd,Nat.reduceLeDiff,Int.reduceLT,Int.reduceLE,↓u_setN]
 refine (zc1 z.inn hro.1 Rd.sl).Q ?_
 rintro w T ⟨rfl,rfl⟩
 have U1:=(Store.set_ne T (.box [.int .u32 x,.int .u32 y,.sl 12 ((rulesK z.inn).map Rule.c),.nils]) n15).trans T1
 have U5:=Store.set_same T p5 (.box [.int .u32 x,.int .u32 y,.sl 12 ((rulesK z.inn).map Rule.c),.nils])
 have sU:Store.sub σ (T.set p5 (.box [.int .u32 x,.int .u32 y,.sl 12 ((rulesK z.inn).map Rule.c),.nils])):=za hs h5
 simp only [T5,s2,↓vcPre,↓z0,↓reduceIte,vcPost,vcStd,Nat.reduceEqDiff,reduceCtorEq,Nat.reduceAdd,Nat.reduceLeDiff,Int.reduceLT,Int.reduceLE,↓u_setN]
 simp only [U1,c7,f3,hp,ha3,hr3' _ sU,↓vcPre,↓z0,↓reduceIte,vcPost,vcStd,Nat.reduceEqDiff,reduceCtorEq,Nat.reduceAdd,Nat.reduceLeDiff,Int.reduceLT,Int.reduceLE,↓u_setN]
 refine (zc1 z.out hro.2 Rd.sl).Q ?_
 rintro w U ⟨hU,rfl⟩
 subst hU
 simp only [U5,s3,Store.set_set,↓vcPre,↓z0,↓reduceIte,vcPost,vcStd,Nat.reduceEqDiff,reduceCtorEq,Nat.reduceAdd,Nat.reduceLeDiff,Int.reduceLT,Int.reduceLE,↓u_setN]
 exact hn
end
end Go.Am
namespace Go.Am
open Go.Proofs Go.Sort
def cV00:List AV:=[.int .u32 0,.int .u32 0,.int .i64 0,.nils,.int .i64 0,.int .i64 0,.int .i64 0]
set_option maxHeartbeats 1000000 in
set_option maxRecDepth 20000 in
theorem zc5 {σ:Store} (c:Cfg) (hc:c.Ok) {lv:AV} (hr:Rd 4 σ (c.ps.map Peer.c) lv) :
 ACalls Tryz.prog 13 [.agg (c.cV lv)] σ (fun r s=>∃ v,r = .agg ((configK c).cV v)∧Store.sub σ s∧Own 4 σ ((configK c).ps.map Peer.c) v s):=by
 refine zi Ts26.F13 (by simp [Ts26.F13,Fn.mkW]) ?_
 simp only [Ts26.F13,Fn.mkW,Ts26.b13]
 have hlen:=hr.2
 rw [List.length_map] at hlen
 have hsm:c.ps.length≤4611686018427387903:=by have:=hc.sm;unfold Small at this;omega
 have c7:∀ v,(c.cV v).length=7:=fun _=>rfl
 have d7:∀ v,(cV0 c v).length=7:=fun _=>rfl
 have f3:∀ v,List.take 1 (List.drop 3 (c.cV v))=[v]:=fun _=>rfl
 have f4:∀ v,List.take 1 (List.drop 4 (c.cV v))=[.int .i64 c.wd]:=fun _=>rfl
 have f5:∀ v,List.take 1 (List.drop 5 (c.cV v))=[.int .i64 c.dp]:=fun _=>rfl
 simp only [↓vcPre,↓z0,↓reduceIte,vcPost,vcStd,Nat.reduceEqDiff,reduceCtorEq,Nat.reduceAdd,Nat.reduceLeDiff,Int.reduceLT,Int.reduceLE,↓u_setN]
 refine AllocQ.i0 fun p1 h1 => ?_
 simp only [↓vcPre,↓z0,↓reduceIte,vcPost,vcStd,Nat.reduceEqDiff,reduceCtorEq,Nat.reduceAdd,Nat.reduceLeDiff,Int.reduceLT,Int.reduceLE,↓u_setN]
 refine AllocQ.i1 fun p2 h21 h12 h2 => ?_
 have sT:=zn (o := .box (c.cV lv)) (p := .box cV00) h1 h2 h21
 have T2:=Store.set_same (σ.set p1 (.box (c.cV lv))) p2 (.box cV00)
 have T1:((σ.set p1 (.box (c.cV lv))).set p2 (.box cV00)) p1=some (.box (c.cV lv)):=by rw [Store.set_ne _ _ h12];exact Store.set_same _ _ _
 simp only [c7,↓vcPre,↓z0,↓reduceIte,vcPost,vcStd,Nat.reduceEqDiff,reduceCtorEq,Nat.reduceAdd,Nat.reduceLeDiff,Int.reduceLT,Int.reduceLE,↓u_setN]
 change Store.sub σ ((σ.set p1 (.box (c.cV lv))).set p2 (.box [.int .u32 0,.int .u32 0,.int .i64 0,.nils,.int .i64 0,.int .i64 0,.int .i64 0])) at sT
 unfold cV00 at T1 T2
 generalize (σ.set p1 (.box (c.cV lv))).set p2 (.box [AV.int .u32 0,.int .u32 0,.int .i64 0,.nils,.int .i64 0,.int .i64 0,.int .i64 0])=T at sT T1 T2 ⊢
 simp only [T1,c7,f4,f5,↓vcPre,↓z0,↓reduceIte,vcPost,vcStd,Nat.reduceEqDiff,reduceCtorEq,Nat.reduceAdd,Nat.reduceLeDiff,Int.reduceLT,Int.reduceLE,↓u_setN]
 have wd1:=c22 c.wd 0 3 hc.wd (by omega) (by omega) (by omega)
 have dp1:=c22 c.dp 0 3 hc.dp (by omega) (by omega) (by omega)
 have ln1:=c22 (c.ps.length:Int) 0 3 (by unfold I64;omega) (by omega) (by omega) (by omega)
 rw [show (0:Int)+c.wd % (3 - 0+1)=c.wd % 4 by omega] at wd1
 rw [show (0:Int)+c.dp % (3 - 0+1)=c.dp % 4 by omega] at dp1
 rw [show (0:Int)+(c.ps.length:Int) % (3 - 0+1)=((c.ps.length % 4:Nat):Int) by omega] at ln1
 have xw:IntKind.i64.wrap (1+c.wd % 4)=1+c.wd % 4:=zd (by unfold I64;omega)
 have xd:IntKind.i64.wrap (1+c.dp % 4)=1+c.dp % 4:=zd (by unfold I64;omega)
 have xl:IntKind.i64.wrap (1+((c.ps.length % 4:Nat):Int))=(countK c.ps.length:Nat):=by rw [zd (by unfold I64;omega)];unfold countK;omega
 refine wd1.Q ?_
 simp only [xw,↓vcPre,↓z0,↓reduceIte,vcPost,vcStd,Nat.reduceEqDiff,reduceCtorEq,Nat.reduceAdd,Nat.reduceLeDiff,Int.reduceLT,Int.reduceLE,↓u_setN]
 refine dp1.Q ?_
 simp only [xd,↓vcPre,↓z0,↓reduceIte,vcPost,vcStd,Nat.reduceEqDiff,reduceCtorEq,Nat.reduceAdd,Nat.reduceLeDiff,Int.reduceLT,Int.reduceLE,↓u_setN]
 refine AllocQ.i0 fun p3 h3' => ?_
 simp only [↓vcPre,↓z0,↓reduceIte,vcPost,vcStd,Nat.reduceEqDiff,reduceCtorEq,Nat.reduceAdd,Nat.reduceLeDiff,Int.reduceLT,Int.reduceLE,↓u_setN]
 have h3:=zm sT h3'
 have n13:¬ p1=p3:=fun e=>by subst e;rw [T1] at h3';cases h3'
 have n23:¬ p2=p3:=fun e=>by subst e;rw [T2] at h3';cases h3'
 have sU:Store.sub T ((T.set p3 (.box [AV.int .u32 0,.int .u32 0,.int .i64 0,.nils,.int .i64 0,.int .i64 0,.int .i64 0])).set p3 (.box (cV0 c .nils))):=za (Store.sub_set _ _ _ h3') h3'
 have U3:=Store.set_same (T.set p3 (.box [AV.int .u32 0,.int .u32 0,.int .i64 0,.nils,.int .i64 0,.int .i64 0,.int .i64 0])) p3 (.box (cV0 c .nils))
 simp only [cV0] at sU U3
 generalize (T.set p3 (.box [AV.int .u32 0,.int .u32 0,.int .i64 0,.nils,.int .i64 0,.int .i64 0,.int .i64 0])).set p3 _=U at sU U3 ⊢
 have U1:=sU _ _ T1
 have U2:=sU _ _ T2
 have sσ:=Store.sub_trans sT sU
 clear T1 T2 sT h3'
 refine LoopQ.inv (S:=Nat×AV×Store) (fun q=>[(1,.ptr p1 0),(2,.ptr p2 0),(3,.ptr p3 0),(4,.int .i64 (q.1:Int))]) (fun q=>q.2.2)
  (fun q=>q.1≤countK c.ps.length∧Store.sub σ q.2.2∧q.2.2 p1=some (.box (c.cV lv))∧q.2.2 p2=some (.box cV00)∧q.2.2 p3=some (.box (cV0 c q.2.1))∧Own 4 σ (((List.range q.1).map (peerK c.ps)).map Peer.c) q.2.1 q.2.2)
  (fun q=>5 - q.1) (0,.nils,U) rfl (Store.sub_refl _) ⟨Nat.zero_le _,sσ,U1,U2,U3,Own.nil⟩ ?_
 rintro ⟨k,v,s⟩ ⟨hk,hs,T1,T2,T3,ho⟩
 simp only at hk hs T1 T2 T3 ho
 have hk4:countK c.ps.length≤4:=by unfold countK;omega
 have e00:cV00.length=7:=rfl
 have t7:∀ v,List.take 7 (cV0 c v)=cV0 c v:=fun _=>rfl
 have z7:∀ v,splice 0 (cV0 c v) cV00=some (cV0 c v):=fun _=>rfl
 simp only [T1,c7,f3,hlen,↓vcPre,↓z0,↓reduceIte,vcPost,vcStd,Nat.reduceEqDiff,reduceCtorEq,Nat.reduceAdd,Nat.reduceLeDiff,Int.reduceLT,Int.reduceLE,↓u_setN]
 refine ln1.Q ?_
 simp only [xl,↓vcPre,↓z0,↓reduceIte,vcPost,vcStd,Nat.reduceEqDiff,reduceCtorEq,Nat.reduceAdd,Nat.reduceLeDiff,Int.reduceLT,Int.reduceLE,↓u_setN]
 refine ⟨fun c1 => ?_,fun c1 => ?_⟩
 ·refine ⟨by omega,AllocQ.i0 fun p5 h5' => ?_⟩
  have h5:=zm hs h5'
  have n15:¬ p1=p5:=fun e=>by subst e;rw [T1] at h5';cases h5'
  have n25:¬ p2=p5:=fun e=>by subst e;rw [T2] at h5';cases h5'
  have n35:¬ p3=p5:=fun e=>by subst e;rw [T3] at h5';cases h5'
  have wx:IntKind.u32.wrap (65001+IntKind.u32.wrap (IntKind.i64.wrap ((k:Int).tdiv 2)))=65001+(k / 2:Nat):=by
   have:k=0∨k=1∨k=2∨k=3:=by omega
   rcases this with rfl | rfl | rfl | rfl <;> rfl
  have wy:IntKind.u32.wrap (IntKind.u32.wrap (33686016+IntKind.u32.wrap (k:Int))+1)=33686017+(k:Int):=by
   have:k=0∨k=1∨k=2∨k=3:=by omega
   rcases this with rfl | rfl | rfl | rfl <;> rfl
  have ek:IntKind.i64.wrap ((k:Int)+1)=((k+1:Nat):Int):=by rw [zd (by unfold I64;omega)];omega
  simp only [↓vcPre,↓z0,↓reduceIte,vcPost,vcStd,Nat.reduceEqDiff,reduceCtorEq,Nat.reduceAdd,Nat.reduceLeDiff,Int.reduceLT,Int.reduceLE,↓u_setN]
  simp only [wx,wy]
  have V5:=Store.set_same (s.set p5 (.box [.int .u32 0,.int .u32 0,.nils,.nils])) p5 (.box [.int .u32 (65001+(k / 2:Nat)),.int .u32 (33686017+(k:Int)),.nils,.nils])
  have sW:Store.sub s ((s.set p5 (.box [.int .u32 0,.int .u32 0,.nils,.nils])).set p5 (.box [.int .u32 (65001+(k / 2:Nat)),.int .u32 (33686017+(k:Int)),.nils,.nils])):=za (Store.sub_set _ _ _ h5') h5'
  generalize (s.set p5 (.box [.int .u32 0,.int .u32 0,.nils,.nils])).set p5 (.box [.int .u32 (65001+(k / 2:Nat)),.int .u32 (33686017+(k:Int)),.nils,.nils])=W at V5 sW ⊢
  have V1:=sW _ _ T1
  have V2:=sW _ _ T2
  have V3:=sW _ _ T3
  have hoW:=ho.mono sW
  have sσW:=Store.sub_trans hs sW
  have hL:(((List.range k).map (peerK c.ps)).map Peer.c).length≤10:=by simp;omega
  have stp:((List.range (k+1)).map (peerK c.ps)).map Peer.c=((List.range k).map (peerK c.ps)).map Peer.c++[(peerK c.ps k).c]:=by rw [List.range_succ];simp
  clear T1 T2 T3 ho
  simp only [V1,c7,f3,hlen,↓vcPre,↓z0,↓reduceIte,vcPost,vcStd,Nat.reduceEqDiff,reduceCtorEq,Nat.reduceAdd,Nat.reduceLeDiff,Int.reduceLT,Int.reduceLE,↓u_setN]
  have hstep:∀ (hk:k<c.ps.length),peerK c.ps k=⟨if Int.tmod c.ps[k].asn 3=0 then 65000 else 65001+(k / 2:Nat),33686017+(k:Int),rulesK c.ps[k].inn,rulesK c.ps[k].out⟩:=fun hk=>by
   unfold peerK;rw [List.getElem?_eq_getElem hk]
  refine ⟨fun c2 => ?_,fun c2 => ?_⟩
  ·have c2':k<c.ps.length:=by omega
   have hs':=hstep c2'
   obtain ⟨p,hp,_,hfl⟩:=hr.atf (k:=k) (by simpa using c2')
   have eg:(c.ps.map Peer.c)[k]'(by simpa using c2')=c.ps[k].c:=List.getElem_map ..
   rw [eg] at hfl
   obtain ⟨p',hp',hrd⟩:=hfl 0 (by simp [Peer.c])
   have hrd':rd W 1 p'=some [.int .u32 c.ps[k].asn]:=hrd W sσW 1
   have hro:=hc.rl _ (List.getElem_mem c2')
   simp only [hp,hp',hrd',↓vcPre,↓z0,↓reduceIte,vcPost,vcStd,Nat.reduceEqDiff,reduceCtorEq,Nat.reduceAdd,Nat.reduceLeDiff,Int.reduceLT,Int.reduceLE,↓u_setN]
   refine ⟨by decide,fun c3 => ?_,fun c3 => ?_⟩
   ·rw [if_pos c3] at hs'
    refine z30 (c:=c) (σ:=σ) c2' hro 65000 (33686017+(k:Int)) hr (by rw [Store.set_ne _ _ n15];exact V1) (Store.set_same _ _ _) n15 (za sσW h5) h5 [] ?_
    simp only [Store.set_set]
    rw [hs'] at stp
    refine z0e (c:=c) (σ:=σ) (v:=v) (L:=((List.range k).map (peerK c.ps)).map Peer.c) ⟨65000,33686017+(k:Int),rulesK c.ps[k].inn,rulesK c.ps[k].out⟩ _ (ImpL.refl _ (by simp [Peer.c,AV.flat])) rfl (by rw [Store.set_ne _ _ n35];exact V3) (Store.set_same _ _ _) n35 (hoW.setId V5 (fun M e=>by cases e)) (za sσW h5) h3 h5 hL [] _ rfl fun v' T' q1 q2 q3 q4 => ?_
    simp only [ek,↓vcPre,↓z0,↓reduceIte,vcPost,vcStd,Nat.reduceEqDiff,reduceCtorEq,Nat.reduceAdd,Nat.reduceLeDiff,Int.reduceLT,Int.reduceLE,↓u_setN]
    refine NextQ.to (k+1,v',T') rfl (Store.sub_refl _) (by simp only;omega) ⟨by simp only;omega,q1,q4 _ _ (by rw [Store.set_ne _ _ n15];exact V1) n13 n15,q4 _ _ (by rw [Store.set_ne _ _ n25];exact V2) n23 n25,q2,?_⟩
    simp only
    rw [stp]
    exact q3
   ·rw [if_neg c3] at hs'
    refine z30 (c:=c) (σ:=σ) c2' hro _ (33686017+(k:Int)) hr V1 V5 n15 sσW h5 [] ?_
    rw [hs'] at stp
    refine z0e (c:=c) (σ:=σ) (v:=v) (L:=((List.range k).map (peerK c.ps)).map Peer.c) ⟨65001+(k / 2:Nat),33686017+(k:Int),rulesK c.ps[k].inn,rulesK c.ps[k].out⟩ _ (ImpL.refl _ (by simp [Peer.c,AV.flat])) rfl (by rw [Store.set_ne _ _ n35];exact V3) (Store.set_same _ _ _) n35 (hoW.setId V5 (fun M e=>by cases e)) (za sσW h5) h3 h5 hL [] _ rfl fun v' T' q1 q2 q3 q4 => ?_
    simp only [ek,↓vcPre,↓z0,↓reduceIte,vcPost,vcStd,Nat.reduceEqDiff,reduceCtorEq,Nat.reduceAdd,Nat.reduceLeDiff,Int.reduceLT,Int.reduceLE,↓u_setN]
    refine NextQ.to (k+1,v',T') rfl (Store.sub_refl _) (by simp only;omega) ⟨by simp only;omega,q1,q4 _ _ (by rw [Store.set_ne _ _ n15];exact V1) n13 n15,q4 _ _ (by rw [Store.set_ne _ _ n25];exact V2) n23 n25,q2,?_⟩
    simp only
    rw [stp]
    exact q3
  ·have hs':peerK c.ps k=⟨65001+(k / 2:Nat),33686017+(k:Int),[],[]⟩:=by unfold peerK;rw [List.getElem?_eq_none (by omega)]
   rw [hs'] at stp
   refine z0e (c:=c) (σ:=σ) (v:=v) (L:=((List.range k).map (peerK c.ps)).map Peer.c) ⟨65001+(k / 2:Nat),33686017+(k:Int),[],[]⟩ _ (.cons (.refl rfl) (.cons (.refl rfl) (.cons .nils (.cons .nils .nil)))) rfl V3 V5 n35 hoW sσW h3 h5 hL [(37,AV.bool (decide (k<c.ps.length)))] _ rfl fun v' T' q1 q2 q3 q4 => ?_
   simp only [ek,↓vcPre,↓z0,↓reduceIte,vcPost,vcStd,Nat.reduceEqDiff,reduceCtorEq,Nat.reduceAdd,Nat.reduceLeDiff,Int.reduceLT,Int.reduceLE,↓u_setN]
   refine NextQ.to (k+1,v',T') rfl (Store.sub_refl _) (by simp only;omega) ⟨by simp only;omega,q1,q4 _ _ V1 n13 n15,q4 _ _ V2 n23 n25,q2,?_⟩
   simp only
   rw [stp]
   exact q3
 ·simp only [T3,T2,d7,t7,z7,e00,↓vcPre,↓z0,↓reduceIte,vcPost,vcStd,Nat.reduceEqDiff,reduceCtorEq,Nat.reduceAdd,Nat.reduceLeDiff,Int.reduceLT,Int.reduceLE,↓u_setN]
  have ek:k=countK c.ps.length:=by omega
  refine EndQ.to (s.set p2 (.box (cV0 c v))) (.agg (cV0 c v)) ?_ (Store.sub_refl _) ⟨v,rfl,za hs h2,?_⟩
  ·show Env.res [(2,AV.ptr p2 0)] _ [RS.c 2 7 true]=_
   simp only [Store.set_same,d7,t7,Nat.le_refl,↓vcPre,↓z0,↓reduceIte,vcPost,vcStd,Nat.reduceEqDiff,reduceCtorEq,Nat.reduceAdd,Nat.reduceLeDiff,Int.reduceLT,Int.reduceLE,↓u_setN]
  ·rw [ek] at ho
   exact ho.setId T2 (fun M e=>by cases e)
end Go.Am
namespace Go.Am
open Go.Proofs Go.Sort
structure Easy (a:At):Prop where
 org:0≤a.org∧a.org≤2
 path:∃ ls,a.path=[⟨2,ls⟩]∧1≤ls.length∧ls.length≤10
 nxt:goodN a.nxt
 med:a.hm=false→a.med=0
 prf:a.hp=false→a.prf=0
 cml:a.cms.length≤10
 cmi:Inc a.cms
theorem Easy.right {a:At} (h:Easy a):atRight a:=by
 obtain ⟨ls,h1,h2,h3⟩:=h.path
 refine ⟨h.org,⟨fun s hs => ?_,by rw [h1];simp⟩,h.nxt,h.med,h.prf,by have:=h.cml;omega,h.cmi⟩
 rw [h1,List.mem_singleton] at hs
 subst hs
 exact ⟨.inr rfl,h2,by show ls.length≤255;omega⟩
theorem Easy.aok {a:At} (h:Easy a):a.ok:=by
 obtain ⟨ls,h1,h2,h3⟩:=h.path
 refine ⟨by rw [h1];simp,fun s hs => ?_,by have:=h.cml;omega⟩
 rw [h1,List.mem_singleton] at hs
 subst hs
 show ls.length≤1000000
 omega
theorem Easy.enc {a:At} (h:Easy a):(encA a).length≤4068:=by
 obtain ⟨ls,h1,h2,h3⟩:=h.path
 have hc:=h.cml
 have p1:(encPath a.path).length=2+4*ls.length:=by
  rw [h1];simp only [encPath,encSeg,List.flatMap_cons,List.flatMap_nil,List.append_nil,List.length_append,yj,List.length_cons,List.length_nil]
 unfold encA
 simp only [List.length_append]
 have a1:=y6 64 1 [a.org % 256]
 have a2:=y6 64 2 (encPath a.path)
 have a3:=y6 64 3 (b4 a.nxt)
 have a4:(if a.hm then oneA 128 4 (b4 a.med) else []).length≤8:=by split <;> first | exact y6 .. | simp
 have a5:(if a.hp then oneA 64 5 (b4 a.prf) else []).length≤8:=by split <;> first | exact y6 .. | simp
 have a6:(if a.atm then oneA 64 6 [] else []).length≤4:=by split <;> first | exact y6 .. | simp
 have a8:(if a.cms=[] then ([]:List Int) else oneA 192 8 (encW a.cms)).length≤4+4*a.cms.length:=by
  split
  ·simp
  ·have:=y6 192 8 (encW a.cms);rw [yj] at this;exact this
 simp only [List.length_cons,List.length_nil,yw] at *
 omega
theorem Easy.fit {a:At} (h:Easy a):fitT a true:=⟨rfl,h.right,h.enc⟩
theorem Easy.can {a:At} (h:Easy a):canonA a=a:=by
 unfold canonA
 rw [vn h.cmi]
 cases hm:a.hm <;> cases hp:a.hp
 ·have:=h.med hm;have:=h.prf hp;cases a;simp_all
 ·have:=h.med hm;cases a;simp_all
 ·have:=h.prf hp;cases a;simp_all
 ·cases a;simp_all
theorem qb (a:At) (x:Int) (hn:0≤a.nxt):Easy (tameA a x):=by
 obtain ⟨ls,t1,t2,t3⟩:=z6q a x
 have tc:=z1z (a.cms.take 2)
 rw [List.length_take] at tc
 refine ⟨by simp only [tameA];omega,⟨ls,t1,t2,by omega⟩,(z4z hn).1,fun h => ?_,fun h => ?_,by simp only [tameA];omega,z6p _⟩
 ·simp only [tameA] at *;simp [h]
 ·simp only [tameA] at *;simp [h]
def openT (c:Cfg) (p:Peer) (a:At):At:=if innerA c p then { a with hp:=true,prf:=if a.hp then a.prf else 100 } else { a with path:=preA c.asn 1 a.path,nxt:=c.id,hm:=false,med:=0,hp:=false,prf:=0 }
theorem z66 {c:Cfg} {p:Peer} {a:At} (h:Easy a) (hl:∀ ls,a.path=[⟨2,ls⟩]→ls.length≤9) (hg:goodN c.id):Easy (openT c p a):=by
 obtain ⟨ls,h1,h2,h3⟩:=h.path
 have h9:=hl ls h1
 unfold openT
 split
 ·exact ⟨h.org,⟨ls,h1,h2,h3⟩,h.nxt,h.med,(fun e=>by cases e),h.cml,h.cmi⟩
 ·obtain ⟨l2,p1,p2⟩:=z9x c.asn 1 (by omega) ls (by omega)
  refine ⟨h.org,⟨l2,by simp only [h1];exact p1,by omega,by omega⟩,hg,fun _=>rfl,fun _=>rfl,h.cml,h.cmi⟩
theorem z6r {c:Cfg} {k:Nat} (hk:k<c.ps.length) {q:Int×Int} {b:PathR} (h0:chkA c=0) (hq:rightF q.1 q.2=true) (h:Easy b.a) (hl:∀ ls,b.a.path=[⟨2,ls⟩]→ls.length≤9) (hg:goodN c.id) (ho:c.ps[k].out=[]) (hh:hiddenA c k c.ps[k] b=false):toldA c k q b=(openT c c.ps[k] b.a,true):=by
 have hs:startT c c.ps[k] b.a=openT c c.ps[k] b.a:=by unfold startT openT;rw [h.can]
 have he:=z66 (c:=c) (p:=c.ps[k]) h hl hg
 unfold toldA
 rw [if_pos ⟨h0,by omega⟩,Int.toNat_natCast,List.getElem?_eq_getElem hk]
 simp only
 rw [if_pos ⟨hq,h.right,hh⟩,hs]
 unfold tailT
 rw [ho]
 have ha:applyA [] c.asn q (openT c c.ps[k] b.a)=(openT c c.ps[k] b.a,true):=by unfold applyA;rw [List.find?_nil];simp only;rw [he.can]
 rw [ha]
 have hlast:lastT c c.ps[k] (openT c c.ps[k] b.a)=openT c c.ps[k] b.a:=by
  unfold lastT openT
  split <;> rfl
 simp only
 rw [hlast,if_pos he.fit]
theorem z8j {c:Cfg} {k:Nat} (hk:k<c.ps.length) {q:Int×Int} {b:PathR} (hh:hiddenA c k c.ps[k] b=true):toldA c k q b=(zeroAt,false):=by
 unfold toldA
 split
 ·rw [Int.toNat_natCast,List.getElem?_eq_getElem hk]
  simp only
  rw [if_neg (fun h=>by rw [hh] at h;cases h.2.2)]
 ·rfl
theorem z3p (r:Rule) (z:Bool):(ruleK r z).ad=(prefixF r.ad r.ln).1∧(ruleK r z).ln=(prefixF r.ad r.ln).2∧(((ruleK r z).fr=0∧(ruleK r z).tl=32)∨((ruleK r z).fr=9∧(ruleK r z).tl=12))∧((ruleK r z).sp=true∨(ruleK r z).pf=0)∧((ruleK r z).sm=true∨(ruleK r z).md=0):=by
 have kA:∀ x:Rule,x=ruleB r (ruleA r z)→x.ad=(prefixF r.ad r.ln).1∧x.ln=(prefixF r.ad r.ln).2∧((x.fr=0∧x.tl=32)∨(x.fr=9∧x.tl=12))∧x.sp=r.sp∧x.sm=r.sm∧x.pf=0∧x.md=0:=by
  rintro x rfl
  unfold ruleB
  split
  ·exact ⟨rfl,rfl,.inr ⟨rfl,rfl⟩,rfl,rfl,rfl,rfl⟩
  ·exact ⟨rfl,rfl,.inl ⟨rfl,rfl⟩,rfl,rfl,rfl,rfl⟩
 unfold ruleK
 generalize ruleB r (ruleA r z)=x at kA
 obtain ⟨h1,h2,h3,h4,h5,h6,h7⟩:=kA x rfl
 unfold ruleE ruleD ruleC
 cases hs:r.sp <;> cases hm:r.sm <;> simp only [hs,hm] at h4 h5 <;> simp only [Bool.false_eq_true,if_false,if_true] <;> split <;> exact ⟨h1,h2,h3,by simp [h4,h6],by simp [h5,h7]⟩
theorem z83 (r:Rule) (z:Bool):ruleOk (ruleK r z)=true:=by
 have hp:=z51 (bitInt .or .u32 167772160 (shlInt .u32 (Int.tmod r.ad 64) 18)) (8+r.ln % 7)
 change rightF (prefixF r.ad r.ln).1 (prefixF r.ad r.ln).2=true at hp
 obtain ⟨h1,h2,h3,h4,h5⟩:=z3p r z
 obtain ⟨h6,h7⟩:=z84 r z
 rw [←h1,←h2] at hp
 generalize ruleK r z=x at *
 unfold ruleOk
 rw [hp]
 simp only [Bool.true_and,Bool.and_eq_true,Bool.or_eq_true,decide_eq_true_eq]
 exact ⟨by omega,by omega,by omega,h6,by omega,h4,h5⟩
theorem z1t (rs:List Rule):rulesOk (rulesK rs)=true:=by
 have:=z54 rs
 unfold rulesOk
 rw [Bool.and_eq_true]
 refine ⟨by simp;omega,List.all_eq_true.2 fun x hx => ?_⟩
 unfold rulesK at hx
 rw [List.mem_mapIdx] at hx
 obtain ⟨i,hi,rfl⟩:=hx
 exact z83 _ _
end Go.Am
namespace Go.Am
open Go.Proofs Go.Sort
theorem z5x (l:List Peer):distA l=true↔l.Pairwise (fun p q=>q.ad≠p.ad):=by
 induction l with
 | nil=>simp [distA]
 | cons p r ih=>simp only [distA,Bool.and_eq_true,List.all_eq_true,decide_eq_true_eq,List.pairwise_cons,ih]
structure Kept (c:Cfg):Prop where
 asn:c.asn=65000
 id:c.id=16843009
 hold:c.hold=90
 wd:1≤c.wd∧c.wd≤8
 dp:1≤c.dp∧c.dp≤8
 rm:c.rm=300
 len:1≤c.ps.length∧c.ps.length≤4
 ps:∀ i (h:i<c.ps.length),(1≤c.ps[i].asn∧c.ps[i].asn≤65535)∧c.ps[i].ad=33686017+i∧rulesOk c.ps[i].inn=true∧rulesOk c.ps[i].out=true
theorem Kept.good {c:Cfg} (h:Kept c):goodN c.id:=by rw [h.id];decide
theorem Kept.chk {c:Cfg} (h:Kept c):chkA c=0:=by
 have hl:=h.len
 have hw:=h.wd
 have hd:=h.dp
 unfold chkA
 rw [if_neg,if_neg,if_pos]
 ·unfold peersA
  rw [Bool.and_eq_true]
  refine ⟨List.all_eq_true.2 fun p hp => ?_,(z5x _).2 (List.pairwise_iff_getElem.2 fun i j hi hj hij => ?_)⟩
  ·obtain ⟨i,hi,rfl⟩:=List.getElem_of_mem hp
   obtain ⟨h1,h2,h3,h4⟩:=h.ps i hi
   have hg:goodN c.ps[i].ad:=by rw [h2];unfold goodN;omega
   unfold peerOk
   rw [h3,h4]
   simp [h1.1,h1.2,hg]
  ·rw [(h.ps i hi).2.1,(h.ps j hj).2.1];omega
 ·exact fun x=>x ⟨hl.1,hl.2⟩
 ·refine fun x=>x ⟨by rw [h.asn];omega,h.good,by rw [h.hold];omega,by rw [h.hold];omega,hw,hd,by rw [h.rm];omega⟩
theorem Kept.fit {c:Cfg} (h:Kept c):∀ p ∈ c.ps,p.fit:=fun p hp=>by
 obtain ⟨i,hi,rfl⟩:=List.getElem_of_mem hp
 obtain ⟨_,_,h3,h4⟩:=h.ps i hi
 unfold rulesOk at h3 h4
 rw [Bool.and_eq_true,decide_eq_true_eq] at h3 h4
 exact ⟨by omega,by omega⟩
theorem z5v (n:Nat):1≤countK n∧countK n≤4:=by unfold countK;omega
theorem qu (c:Cfg):Kept (configK c):=by
 have hl:(configK c).ps.length=countK c.ps.length:=by simp [configK]
 have hc:=z5v c.ps.length
 refine ⟨rfl,rfl,rfl,by show 1≤1+c.wd % 4∧1+c.wd % 4≤8;omega,by show 1≤1+c.dp % 4∧1+c.dp % 4≤8;omega,rfl,by rw [hl];exact hc,fun i hi => ?_⟩
 rw [hl] at hi
 have e:(configK c).ps[i]'(by rw [hl];exact hi)=peerK c.ps i:=by simp [configK]
 rw [e]
 unfold peerK
 split
 ·exact ⟨by constructor <;> simp only <;> omega,rfl,rfl,rfl⟩
 ·exact ⟨by constructor <;> simp only <;> split <;> omega,rfl,z1t _,z1t _⟩
def Peer.open (p:Peer):Peer:={ p with out:=[] }
def P0:Peer:=⟨0,0,[],[]⟩
def cfg0:Cfg:=⟨0,0,0,[P0,P0,P0],0,0,0⟩
def cfg1:Cfg:=⟨65000,16843009,90,[⟨65001,33686017,[],[]⟩,⟨65002,33686018,[],[]⟩,⟨65000,33686019,[],[]⟩,⟨65002,33686020,[],[]⟩],1,1,300⟩
theorem z98:(configK cfg0).ps=[⟨65000,33686017,[],[]⟩,⟨65000,33686018,[],[]⟩,⟨65000,33686019,[],[]⟩,⟨65002,33686020,[],[]⟩]:=rfl
theorem kept_cfg1:Kept cfg1:=by
 refine ⟨rfl,rfl,rfl,by decide,by decide,rfl,by decide,fun i hi => ?_⟩
 have:i=0∨i=1∨i=2∨i=3:=by have:cfg1.ps.length=4:=rfl;omega
 rcases this with rfl | rfl | rfl | rfl <;> exact ⟨by simp [cfg1],rfl,rfl,rfl⟩
def path1:PathR:=⟨0,0,0,false,tameA zeroAt 65001⟩
theorem zek:toldA cfg1 1 (0,0) path1=(⟨0,[⟨2,[65000,65001]⟩],16843009,false,0,false,0,false,[]⟩,true):=by
 have h:=z6r (c:=cfg1) (k:=1) (by decide) (q:=(0,0)) (b:=path1) kept_cfg1.chk (by decide) (qb zeroAt 65001 (by decide)) (fun ls e=>by
  have:(path1.a.path)=[⟨2,[65001]⟩]:=rfl
  rw [this] at e
  cases e
  decide) kept_cfg1.good rfl (by decide+kernel)
 rw [show ((1:Nat):Int)=1 from rfl] at h
 rw [h]
 rfl
theorem zej:toldA cfg1 0 (0,0) path1=(zeroAt,false):=z8j (c:=cfg1) (k:=0) (by decide) (by decide+kernel)
end Go.Am
namespace Go.Am.Ts30
open Go.Proofs Go.Am.B
def t17_18:BC:=z [p 18 (.build [(.int .i64 0),.nils,(.int .u32 0),(.bool false),(.int .u32 0),(.bool false),(.int .u32 0),(.bool false),.nils] []) [],g 19 14 [.t 18,.c (.int .u32 65001)],p 20 (.build [(.int .i64 0),(.int .u32 0),(.int .u32 0),(.bool false),(.int .i64 0),.nils,(.int .u32 0),(.bool false),(.int .u32 0),(.bool false),(.int .u32 0),(.bool false),.nils] [(0,1),(4,9)]) [.c (.int .i64 0),.t 19],⟨some 2,none,.alloc (.alloc [(.int .i64 0),(.int .u32 0),(.int .u32 0),(.bool false),(.int .i64 0),.nils,(.int .u32 0),(.bool false),(.int .u32 0),(.bool false),(.int .u32 0),(.bool false),.nils]),[]⟩,s 13 2 20] [1,2] (z [⟨some 22,none,.load (.ld 7 true),[.t 1]⟩,p 23 (.build [(.int .u32 0),(.int .i64 0)] []) [],⟨some 24,none,.load (.ld 13 true),[.t 2]⟩,g 25 41 [.t 22,.c (.int .i64 1),.t 23,.t 24],m 21 25,e 26 0 21,e 27 1 21,⟨some 3,none,.alloc (.alloc [(.int .i64 0),.nils,(.int .u32 0),(.bool false),(.int .u32 0),(.bool false),(.int .u32 0),(.bool false),.nils]),[]⟩,s 9 3 26,m 4 27] [1,2,3,4] (z [⟨some 29,none,.load (.ld 7 true),[.t 1]⟩,p 30 (.build [(.int .u32 0),(.int .i64 0)] []) [],⟨some 31,none,.load (.ld 13 true),[.t 2]⟩,g 32 41 [.t 29,.c (.int .i64 0),.t 30,.t 31],m 28 32,e 33 0 28,e 34 1 28,⟨some 5,none,.alloc (.alloc [(.int .i64 0),.nils,(.int .u32 0),(.bool false),(.int .u32 0),(.bool false),(.int .u32 0),(.bool false),.nils]),[]⟩,s 9 5 33,m 6 34] [1,3,4,6] (z [m 35 4,m 36 35,⟨some 37,some (36,true),.pure (.mov),[.t 6]⟩,⟨some 38,some (36,true),.pure (.not),[.t 37]⟩,⟨some 39,none,.pick,[.t 36,.t 38,.c (.bool false)]⟩,m 40 39,⟨some 41,some (40,true),.pure (.fld 1),[.t 3]⟩,⟨some 42,some (40,true),.load (.ld 1 false),[.t 41]⟩,⟨some 43,some (40,true),.pure (.len),[.t 42]⟩,⟨some 44,some (40,true),.pure (.bin .eql),[.t 43,.c (.int .i64 1)]⟩,⟨some 45,none,.pick,[.t 40,.t 44,.c (.bool false)]⟩,m 46 45,⟨some 47,some (46,true),.pure (.fld 1),[.t 3]⟩,⟨some 48,some (46,true),.load (.ld 1 false),[.t 47]⟩,⟨some 49,some (46,true),.pure (.idx 2),[.t 48,.c (.int .i64 0)]⟩,⟨some 50,some (46,true),.pure (.fld 1),[.t 49]⟩,⟨some 51,some (46,true),.load (.ld 1 false),[.t 50]⟩,⟨some 52,some (46,true),.pure (.idx 1),[.t 51,.c (.int .i64 0)]⟩,⟨some 53,some (46,true),.load (.ld 1 false),[.t 52]⟩,⟨some 54,some (46,true),.pure (.bin .eql),[.t 53,.c (.int .u32 65000)]⟩,⟨some 55,none,.pick,[.t 46,.t 54,.c (.bool false)]⟩,m 56 55,⟨some 57,some (56,true),.pure (.fld 2),[.t 3]⟩,⟨some 58,some (56,true),.load (.ld 1 false),[.t 57]⟩,⟨some 59,some (56,true),.pure (.fld 1),[.t 1]⟩,⟨some 60,some (56,true),.load (.ld 1 false),[.t 59]⟩,⟨some 61,some (56,true),.pure (.bin .eql),[.t 58,.t 60]⟩,⟨some 62,none,.pick,[.t 56,.t 61,.c (.bool false)]⟩,m 0 62] [0] .ret)))
def b17:BC:=z [k 0 (.bool false)] [] (z [⟨some 7,none,.alloc (.make 4 [(.int .u32 0),(.int .u32 0),.nils,.nils] 56),[.c (.int .i64 3),.c (.int .i64 3)]⟩,p 8 (.build [(.int .u32 0),(.int .u32 0),(.int .i64 0),.nils,(.int .i64 0),(.int .i64 0),(.int .i64 0)] [(3,1)]) [.t 7],g 9 13 [.t 8],⟨some 1,none,.alloc (.alloc [(.int .u32 0),(.int .u32 0),(.int .i64 0),.nils,(.int .i64 0),(.int .i64 0),(.int .i64 0)]),[]⟩,s 7 1 9] [1] (.seq (z [f 10 3 1] [1,10] (z [f 12 3 1] [1,10,12] (z [l 11 1 10] [1,11,12] (z [p 14 (.idx 4) [.t 11,.c (.int .i64 0)]] [1,12,14] (z [f 15 0 14] [1,12,15] (.both (z [l 13 1 12] [1,13,15] (z [⟨none,none,.loud (.st 1),[.t 15,.c (.int .u32 65001)]⟩] [1,13] (z [p 16 (.idx 4) [.t 13,.c (.int .i64 1)]] [1,16] (z [f 17 0 16] [1,17] (z [⟨none,none,.loud (.st 1),[.t 17,.c (.int .u32 65002)]⟩] [1] (.ops [] [1])))))) (.both (z [⟨none,none,.loud (.st 1),[.t 15,.c (.int .u32 65001)]⟩] [1,12] (z [l 13 1 12] [1,13] (z [p 16 (.idx 4) [.t 13,.c (.int .i64 1)]] [1,16] (z [f 17 0 16] [1,17] (z [⟨none,none,.loud (.st 1),[.t 17,.c (.int .u32 65002)]⟩] [1] (.ops [] [1])))))) (.top)))))))) t17_18))
def F17:Fn Tryz.prog 17:=Fn.mkX false b17 [.t 0] 63 Tryz.f17 _ Tryz.func17 (by decide) rfl Tryz.ntmps17 (by kernel_rfl) (by kernel_rfl)
end Go.Am.Ts30
namespace Go.Am
open Go.Proofs Go.Sort
theorem u9 {α:Type} {o:Option α} {b:α} {f:α→Prop} (h:o=some b) (hf:f b):wit o f:=by rw [h,yf];exact hf
section
variable {σ:Store} {n rr:Env→Store→Prop} {xx:Nat→Env→Store→Prop}
set_option maxHeartbeats 1000000 in
set_option maxRecDepth 20000 in
theorem z6m {W:Store} {p1 h:Nat} (hs:Store.sub σ W) (W1:W p1=some (.box (cfg1.cV (.os h 4 0 4)))) (Wh:W h=some (.arr 4 (cfg1.ps.map Peer.c))) (hfin:∀ t,Store.sub σ t→rr [(0,.bool true)] t):bwp Tryz.prog Ts30.t17_18 [(1,.ptr p1 0)] W n rr xx:=by
 simp only [Ts30.t17_18,yi]
 simp only [↓vcPre,↓z0,↓reduceIte,vcPost,vcStd,Nat.reduceEqDiff,reduceCtorEq,Nat.reduceAdd,Nat.reduceLeDiff,Int.reduceLT,Int.reduceLE,↓u_setN]
 have h0:=c14 zeroAt (by unfold I64 zeroAt;decide) 65001 W
 have hk:ACalls Tryz.prog 14 [.agg zCells,.int .u32 65001] W _:=ACalls.weakArgs h0.1 (WeakL.pos 0 rfl (v8 (WeakL.pure h0)))
 refine hk.Q ?_
 rintro r W ⟨rfl,rfl⟩
 have e9:∀ y:At,y.c.length=9:=fun _=>rfl
 have t9:∀ y:At,List.take 9 y.c=y.c:=fun _=>rfl
 have hz:∀ y:At,splice 0 y.c zCells=some y.c:=fun _=>rfl
 have c7:(cfg1.cV (.os h 4 0 4)).length=7:=rfl
 have t7:List.take 7 (cfg1.cV (.os h 4 0 4))=cfg1.cV (.os h 4 0 4):=rfl
 have b13:path1.c.length=13:=rfl
 have t13:List.take 13 path1.c=path1.c:=rfl
 have pf:AV.int .i64 0 :: .int .u32 0 :: .int .u32 0 :: .bool false::(tameA zeroAt 65001).c=path1.c:=rfl
 have f1:List.take 1 (List.drop 1 (cfg1.cV (.os h 4 0 4)))=[.int .u32 16843009]:=rfl
 simp only [e9,hz,pf,↓vcPre,↓z0,↓reduceIte,vcPost,vcStd,Nat.reduceEqDiff,reduceCtorEq,Nat.reduceAdd,Nat.reduceLeDiff,Int.reduceLT,Int.reduceLE,↓u_setN]
 refine AllocQ.i0 fun p2 h2 => ?_
 simp only [↓vcPre,↓z0,↓reduceIte,vcPost,vcStd,Nat.reduceEqDiff,reduceCtorEq,Nat.reduceAdd,Nat.reduceLeDiff,Int.reduceLT,Int.reduceLE,↓u_setN]
 refine ⟨b13,?_⟩
 rw [show splice 0 path1.c (AV.int .i64 0::AV.int .u32 0::AV.int .u32 0::AV.bool false::zCells)=some path1.c from rfl,yf]
 have n12:¬ p1=p2:=fun e=>by subst e;rw [W1] at h2;cases h2
 have sU:Store.sub W ((W.set p2 (.box (AV.int .i64 0::AV.int .u32 0::AV.int .u32 0::AV.bool false::zCells))).set p2 (.box path1.c)):=za (Store.sub_set _ _ _ h2) h2
 have U2:=Store.set_same (W.set p2 (.box (AV.int .i64 0::AV.int .u32 0::AV.int .u32 0::AV.bool false::zCells))) p2 (.box path1.c)
 generalize (W.set p2 (.box (AV.int .i64 0::AV.int .u32 0::AV.int .u32 0::AV.bool false::zCells))).set p2 (.box path1.c)=U at sU U2 ⊢
 have U1:=sU _ _ W1
 have Uh:=sU _ _ Wh
 have sσU:=Store.sub_trans hs sU
 clear W1 Wh h0 hk hs sU
 have hr:=Rd.os (esz:=4) Uh
 have told:∀ (t:Store) (k:Int),Store.sub U t→ACalls Tryz.prog 41 [.agg (cfg1.cV (.os h 4 0 4)),.int .i64 k,.agg [.int .u32 0,.int .i64 0],.agg path1.c] t (fun r s=>s=t∧r = .tup [.agg (toldA cfg1 k (0,0) path1).1.c,.bool (toldA cfg1 k (0,0) path1).2]):=fun t k ht =>
  s41 cfg1 kept_cfg1.fit k (0,0) path1 (qb zeroAt 65001 (by decide)).aok (hr.mono ht)
 simp only [U1,U2,c7,t7,b13,t13,↓vcPre,↓z0,↓reduceIte,vcPost,vcStd,Nat.reduceEqDiff,reduceCtorEq,Nat.reduceAdd,Nat.reduceLeDiff,Int.reduceLT,Int.reduceLE,↓u_setN]
 refine (told U 1 (Store.sub_refl _)).Q ?_
 rw [zek]
 rintro r U' ⟨rfl,rfl⟩
 generalize hX:(⟨0,[⟨2,[65000,65001]⟩],16843009,false,0,false,0,false,[]⟩:At)=X
 have X1:List.take 1 (List.drop 1 X.c)=[.sl 2 [[.int .i64 2,.sl 1 [[.int .u32 65000],[.int .u32 65001]]]]]:=by rw [←hX];rfl
 have X2:List.take 1 (List.drop 2 X.c)=[.int .u32 16843009]:=by rw [←hX];rfl
 clear hX
 simp only [e9,t9,hz,↓vcPre,↓z0,↓reduceIte,vcPost,vcStd,Nat.reduceEqDiff,reduceCtorEq,Nat.reduceAdd,Nat.reduceLeDiff,Int.reduceLT,Int.reduceLE,↓u_setN]
 refine AllocQ.i0 fun p3 h3 => ?_
 simp only [hz,e9,↓vcPre,↓z0,↓reduceIte,vcPost,vcStd,Nat.reduceEqDiff,reduceCtorEq,Nat.reduceAdd,Nat.reduceLeDiff,Int.reduceLT,Int.reduceLE,↓u_setN]
 have n13:¬ p1=p3:=fun e=>by subst e;rw [U1] at h3;cases h3
 have sV:Store.sub U' ((U'.set p3 (.box zCells)).set p3 (.box X.c)):=za (Store.sub_set _ _ _ h3) h3
 have V3:=Store.set_same (U'.set p3 (.box zCells)) p3 (.box X.c)
 generalize (U'.set p3 (.box zCells)).set p3 (.box X.c)=V at sV V3 ⊢
 have V1:=sV _ _ U1
 have V2:=sV _ _ U2
 have sσV:=Store.sub_trans sσU sV
 simp only [V1,V2,c7,t7,b13,t13,↓vcPre,↓z0,↓reduceIte,vcPost,vcStd,Nat.reduceEqDiff,reduceCtorEq,Nat.reduceAdd,Nat.reduceLeDiff,Int.reduceLT,Int.reduceLE,↓u_setN]
 refine (told V 0 sV).Q ?_
 rw [zej]
 rintro r V' ⟨rfl,rfl⟩
 have zt:∀ w:List AV,w=zCells→splice 0 zeroAt.c w=some zeroAt.c:=fun w e=>by subst e;rfl
 simp only [e9,t9,hz,↓vcPre,↓z0,↓reduceIte,vcPost,vcStd,Nat.reduceEqDiff,reduceCtorEq,Nat.reduceAdd,Nat.reduceLeDiff,Int.reduceLT,Int.reduceLE,↓u_setN]
 refine AllocQ.i0 fun p5 h5 => ?_
 simp only [hz,e9,↓vcPre,↓z0,↓reduceIte,vcPost,vcStd,Nat.reduceEqDiff,reduceCtorEq,Nat.reduceAdd,Nat.reduceLeDiff,Int.reduceLT,Int.reduceLE,↓u_setN]
 have sY:Store.sub V' ((V'.set p5 (.box zCells)).set p5 (.box zeroAt.c)):=za (Store.sub_set _ _ _ h5) h5
 generalize (V'.set p5 (.box zCells)).set p5 (.box zeroAt.c)=Y at sY ⊢
 have Y1:=sY _ _ V1
 have Y3:=sY _ _ V3
 simp only [Y1,Y3,X1,X2,e9,c7,f1,↓vcPre,↓z0,↓reduceIte,vcPost,vcStd,Nat.reduceEqDiff,reduceCtorEq,Nat.reduceAdd,Nat.reduceLeDiff,Int.reduceLT,Int.reduceLE,↓u_setN]
 refine ⟨fun _=>⟨by decide,by decide,u9 (b := .sl 1 [[.int .u32 65000],[.int .u32 65001]]) rfl (u9 (b := .ep [.int .u32 65000]) rfl ?_)⟩,fun h=>absurd rfl h⟩
 simp only [↓vcPre,↓z0,↓reduceIte,vcPost,vcStd,Nat.reduceEqDiff,reduceCtorEq,Nat.reduceAdd,Nat.reduceLeDiff,Int.reduceLT,Int.reduceLE,↓u_setN]
 exact hfin _ (Store.sub_trans sσV sY)
end
set_option maxHeartbeats 1000000 in
set_option maxRecDepth 20000 in
theorem c17:Pur Tryz.prog 17 [] (.bool true):=by
 refine zo Ts30.F17 (by simp [Ts30.F17,Fn.mkX]) fun σ => ?_
 simp only [Ts30.F17,Fn.mkX,Ts30.b17]
 simp only [↓vcPre,↓z0,↓reduceIte,vcPost,vcStd,Nat.reduceEqDiff,reduceCtorEq,Nat.reduceAdd,Nat.reduceLeDiff,Int.reduceLT,Int.reduceLE,↓u_setN]
 refine ⟨by decide,AllocQ.i0 fun g hg => ?_⟩
 simp only [↓vcPre,↓z0,↓reduceIte,vcPost,vcStd,Nat.reduceEqDiff,reduceCtorEq,Nat.reduceAdd,Nat.reduceLeDiff,Int.reduceLT,Int.reduceLE,↓u_setN]
 have imp:Rels ImpL (List.replicate 3 [AV.int .u32 0,.int .u32 0,.nils,.nils]) (cfg0.ps.map Peer.c):=by
  have e:ImpL [AV.int .u32 0,.int .u32 0,.nils,.nils] P0.c := .cons (.refl rfl) (.cons (.refl rfl) (.cons .nils (.cons .nils .nil)))
  exact .cons e (.cons e (.cons e .nil))
 have sU:Store.sub σ ((σ.set g (.arr 4 (List.replicate 3 [AV.int .u32 0,.int .u32 0,.nils,.nils]))).set g (.arr 4 (cfg0.ps.map Peer.c))):=za (Store.sub_set _ _ _ hg) hg
 have hcall:=zc5 (σ:=(σ.set g (.arr 4 (List.replicate 3 [AV.int .u32 0,.int .u32 0,.nils,.nils]))).set g (.arr 4 (cfg0.ps.map Peer.c))) cfg0 ⟨by unfold I64 cfg0;decide,by unfold I64 cfg0;decide,by unfold Small cfg0;decide,fun p hp=>by
  have:p=P0:=by simp [cfg0] at hp;exact hp
  subst this
  exact ⟨by simp [P0],by simp [P0]⟩,fun p hp=>by
  have:p=P0:=by simp [cfg0] at hp;exact hp
  subst this
  exact ⟨by simp [P0],by simp [P0]⟩⟩ (lv := .os g 4 0 3) (Rd.os (Store.set_same _ _ _))
 have hcall2:=ACalls.weakArgs (σ:=σ.set g (.arr 4 (List.replicate 3 [AV.int .u32 0,.int .u32 0,.nils,.nils]))) hcall.1 (WeakL.arrImp g (Store.set_same _ _ _) imp (WeakL.pure hcall))
 generalize (σ.set g (.arr 4 (List.replicate 3 [AV.int .u32 0,.int .u32 0,.nils,.nils]))).set g (.arr 4 (cfg0.ps.map Peer.c))=U at *
 clear hcall
 refine hcall2.Q ?_
 rintro r T ⟨v,rfl,q1,q2⟩
 rw [z98] at q2
 rcases q2 with ⟨e,_⟩ | ⟨h,rfl,hh,hT⟩
 ·simp at e
 have c7:((configK cfg0).cV (.os h 4 0 4)).length=7:=rfl
 simp only [c7,↓vcPre,↓z0,↓reduceIte,vcPost,vcStd,Nat.reduceEqDiff,reduceCtorEq,Nat.reduceAdd,Nat.reduceLeDiff,Int.reduceLT,Int.reduceLE,↓u_setN]
 refine AllocQ.i0 fun p1 h1' => ?_
 simp only [c7,↓vcPre,↓z0,↓reduceIte,vcPost,vcStd,Nat.reduceEqDiff,reduceCtorEq,Nat.reduceAdd,Nat.reduceLeDiff,Int.reduceLT,Int.reduceLE,↓u_setN]
 have n1h:¬ p1=h:=fun e=>by subst e;rw [hT] at h1';cases h1'
 have hn1:¬ h=p1:=fun e=>n1h e.symm
 have sT:=Store.sub_trans sU q1
 have hz:splice 0 ((configK cfg0).cV (.os h 4 0 4)) [AV.int .u32 0,.int .u32 0,.int .i64 0,.nils,.int .i64 0,.int .i64 0,.int .i64 0]=some ((configK cfg0).cV (.os h 4 0 4)):=rfl
 have f3:List.take 1 (List.drop 3 ((configK cfg0).cV (.os h 4 0 4)))=[.os h 4 0 4]:=rfl
 rw [hz,yf]
 have V1:=Store.set_same (T.set p1 (.box [AV.int .u32 0,.int .u32 0,.int .i64 0,.nils,.int .i64 0,.int .i64 0,.int .i64 0])) p1 (.box ((configK cfg0).cV (.os h 4 0 4)))
 have sV:Store.sub T ((T.set p1 (.box [AV.int .u32 0,.int .u32 0,.int .i64 0,.nils,.int .i64 0,.int .i64 0,.int .i64 0])).set p1 (.box ((configK cfg0).cV (.os h 4 0 4)))):=za (Store.sub_set _ _ _ h1') h1'
 generalize (T.set p1 (.box [AV.int .u32 0,.int .u32 0,.int .i64 0,.nils,.int .i64 0,.int .i64 0,.int .i64 0])).set p1 (.box ((configK cfg0).cV (.os h 4 0 4)))=V at V1 sV ⊢
 have Vh:=sV _ _ hT
 have hσh:=zm sU hh
 have sσV:=Store.sub_trans sT sV
 have hσ1:=zm sT h1'
 clear hT hz imp hcall2
 simp only [V1,Vh,f3,c7,↓vcPre,↓z0,↓reduceIte,vcPost,vcStd,Nat.reduceEqDiff,reduceCtorEq,Nat.reduceAdd,Nat.reduceLeDiff,Int.reduceLT,Int.reduceLE,↓u_setN]
 have fin:=z6m (n:=fun e τ=>e.get 0=some (AV.bool true)∧σ.sub τ) (rr:=fun e τ=>e.get 0=some (AV.bool true)∧σ.sub τ) (xx:=fun _ _ _=>False) (W:=V.set h (.arr 4 (cfg1.ps.map Peer.c))) (p1:=p1) (h:=h) (za sσV hσh) (by rw [Store.set_ne _ _ n1h];exact V1) (Store.set_same _ _ _) (fun t ht=>⟨rfl,ht⟩)
 refine ⟨by decide,⟨by decide,u9 (b:=(⟨65001,33686017,[],[]⟩:Peer).c) rfl ⟨by decide,by decide,u9 (b:=(⟨65002,33686018,[],[]⟩:Peer).c) rfl ?_⟩⟩,⟨by decide,u9 (b:=(⟨65001,33686017,[],[]⟩:Peer).c) rfl ?_⟩⟩
 ·rw [Store.set_set]
  exact fin
 ·simp only [Store.set_ne _ _ n1h,V1,f3,c7,↓vcPre,↓z0,↓reduceIte,vcPost,vcStd,Nat.reduceEqDiff,reduceCtorEq,Nat.reduceAdd,Nat.reduceLeDiff,Int.reduceLT,Int.reduceLE,↓u_setN]
  refine ⟨by decide,by decide,u9 (b:=(⟨65002,33686018,[],[]⟩:Peer).c) rfl ?_⟩
  rw [Store.set_set]
  exact fin
end Go.Am
namespace Go.Am
open Go.Proofs Go.Sort
theorem zgr {σ:Store} (c:Cfg) (hc:c.Ok) {lv:AV} (hr:Rd 4 σ (c.ps.map Peer.c) lv) :
 ACalls Tryz.prog 13 [.agg (c.cV lv)] σ (fun r s=>∃ g,r = .agg ((configK c).cV (.os g 4 0 (configK c).ps.length))∧Store.sub σ s∧σ g=none∧s g=some (.arr 4 ((configK c).ps.map Peer.c))) :=
 (zc5 c hc hr).mono (by
   rintro r s ⟨v,rfl,h1,h2⟩
   rcases h2 with ⟨e,_⟩ | ⟨g,rfl,h3,h4⟩
   ·have:=(qu c).len
    have e2:=congrArg List.length e
    rw [List.length_map,List.length_nil] at e2
    omega
   ·exact ⟨g,by rw [List.length_map],h1,h3,h4⟩)
end Go.Am
