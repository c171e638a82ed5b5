/- A part of the proof: a logic for calls over plain values, and the functions that the law reaches, each walked once. -/
import Derived.Test.YtcjiacchgddnpabGreatPO13
set_option linter.unusedVariables false
set_option linter.unusedSimpArgs false
set_option linter.unusedSectionVars false
namespace Go.Am
open Go.Proofs Go.Sort
theorem Imp.agg {cs ds:List AV} {σ:Store} {Q:AV→Store→Prop} (h:ImpL cs ds) (hq:Q (.agg ds) σ):Weak (.agg cs) σ Q:=Weak.agg (WeakL.imp h (WeakL.pure ⟨h.flat,hq⟩))
theorem EndQ.three {slots:List RS} {Q:AV→Store→Prop} {e:Env} {τ:Store} {cs cs' ns ns':List AV} {tv:AV} (h1:e.res τ slots=some (.tup [.agg cs,tv,.agg ns])) (hc:ImpL cs cs') (hn:ImpL ns ns')
 (hQ:Q (.tup [.agg cs',tv,.agg ns']) τ) : @EndQ e τ ⟨slots,Q⟩:=by
 unfold EndQ
 refine ⟨_,h1,Weak.tup (WeakL.pos 0 rfl (Imp.agg hc (WeakL.pos 2 rfl (Imp.agg hn (WeakL.pure ?_)))))⟩
 simp only [List.set]
 exact hQ
theorem z44 {Q:AV→Store→Prop} {σ τ:Store} {x y tv:AV} {L:List (List AV)} (ho:Own 1 σ L tv τ) (hs:Store.sub σ τ) (hQ:Q (.tup [x,.sl 1 L,y]) σ):WeakL [x,tv,y] τ (fun l s=>Q (.tup l) s):=by
 rcases ho with ⟨rfl,rfl⟩ | ⟨g,rfl,hg,hh⟩
 ·exact WeakL.nil 1 1 rfl (WeakL.forget hs (WeakL.pure hQ))
 ·refine WeakL.freeze 1 rfl hh (by omega) (WeakL.forget (sub_del hs hg) (WeakL.pure ?_))
  simpa using hQ
def seenM (S:List Int):List (AV×AV):=S.map fun k=>(.int .i64 k,.bool true)
theorem vz (k:Int):∀ (S:List Int) (i:Nat),(k ∈ S→∃ j,mfind (.int .i64 k) (seenM S) i=some (some (j,.bool true)))∧(k ∉ S→mfind (.int .i64 k) (seenM S) i=some none)
 | [],i=>⟨fun h=>by simp at h,fun _=>rfl⟩
 | x::S,i=>by
   have ih:=vz k S (i+1)
   have e:kEq (.int .i64 k) (.int .i64 x)=some (decide (k=x)):=by simp [kEq,asOne]
   simp only [seenM,List.map_cons,mfind,e]
   by_cases h:k=x
   ·subst h
    simp only [decide_true]
    exact ⟨fun _=>⟨i,rfl⟩,fun h=>by simp at h⟩
   ·rw [decide_eq_false h]
    simp only
    exact ⟨fun hm=>ih.1 (by simpa [h] using hm),fun hm=>ih.2 (fun h'=>hm (by simp [h']))⟩
theorem zau {s:Store} {m:Nat} {S:List Int} (hm:s m=some (.map (seenM S))) (k:Int):ldv (.look false (.int .i64) (.bool false)) [.mp m,.int .i64 k] s=some (.bool (decide (k ∈ S))):=by
 have hf:keyFits (.int .i64) (.int .i64 k)=true:=by simp [keyFits,asOne]
 simp only [ldv,hf,if_true,mpOf,hm,Option.bind_some]
 by_cases h:k ∈ S
 ·obtain ⟨j,hj⟩:=(vz k S 0).1 h
  rw [hj,decide_eq_true h];rfl
 ·rw [(vz k S 0).2 h,decide_eq_false h];rfl
theorem z9v {s:Store} {m:Nat} {S:List Int} {k:Int} {K:Store→Prop} (hm:s m=some (.map (seenM S))) (hk:k ∉ S) (h:K (s.set m (.map (seenM (S++[k]))))):mupdwp (.int .i64) (.mp m) (.int .i64 k) (.bool true) s K:=by
 refine ⟨by simp [keyFits,asOne],?_⟩
 simp only [hm,(vz k S 0).2 hk]
 simpa [seenM] using h
def zC:List AV:=[.int .i64 0,.nils,.int .u32 0,.bool false,.int .u32 0,.bool false,.int .u32 0,.bool false,.nils]
def zN:List AV:=[.int .i64 0,.int .i64 0,.nils]
theorem zC_imp:ImpL zC zeroAt.c := .cons (.refl rfl) (.cons .nils (.cons (.refl rfl) (.cons (.refl rfl) (.cons (.refl rfl) (.cons (.refl rfl) (.cons (.refl rfl) (.cons (.refl rfl) (.cons .nils .nil))))))))
def outD (x:Except Nt (At×List Int)):AV:=match x with
 | .ok (a,ty) => .tup [.agg a.c,.sl 1 (ty.map cI),.agg [.int .i64 0,.int .i64 0,.sl 1 []]]
 | .error n => .tup [.agg zeroAt.c,.sl 1 [],.agg [.int .i64 3,.int .i64 n.1,.sl 1 (n.2.map cB)]]
def outO (x:Except Nt (At×List Int)) (tv:AV):AV:=match x with
 | .ok (a,_) => .tup [.agg a.c,tv,.agg [.int .i64 0,.int .i64 0,.sl 1 []]]
 | .error n => .tup [.agg zeroAt.c,tv,.agg [.int .i64 3,.int .i64 n.1,.sl 1 (n.2.map cB)]]
def tyO (x:Except Nt (At×List Int)):List (List AV):=match x with
 | .ok (_,ty)=>ty.map cI
 | .error _=>[]
theorem z0w {c:Ch} {a a':At} (h:stepA c a = .ok a') (ha:a.ok) (hv:c.val.length≤1000000):a'.ok:=by
 unfold stepA at h
 split at h
 ·split at h
  ·cases h
  ·cases h;exact ha
 ·split at h
  ·cases h
  ·split at h
   ·cases h
   ·unfold valA at h
    repeat' split at h
    all_goals first
     | (cases h;exact ha)
     | cases h
     | skip
    ·rename_i l hl
     unfold decPath at hl
     split at hl
     ·split at hl
      ·rename_i hp
       cases hl
       exact ⟨by have:=hp.2;show l.length≤1000000;omega,fun s hs=>by have:=(hp.1 s hs).2.2;show s.ls.length≤_;omega,ha.2.2⟩
      ·cases hl
     ·cases hl
    ·refine ⟨ha.1,ha.2.1,?_⟩
     have:=xn (c.val.length / 4) c.val (by omega)
     simp only
     omega
theorem z7r {σ V:Store} {p4 p6 p7 m x:Nat} (inner:Bool) {rv tv av bo:AV} (c:Ch) (a:At) (ty:List Int) (h46:¬ p4=p6) (h6:¬ p6=p4) (hx4:¬ p4=x) (hx6:¬ p6=x) (hx7:¬ p7=x) (h47:¬ p4=p7) (h67:¬ p6=p7) (m7:¬ m=p7)
 (hV:Store.sub σ V) (Vx:V x=some (.box [.int .i64 c.fl,.int .i64 c.kind,.sl 1 (c.val.map cB),av])) (V4:V p4=some (.box zC)) (V6:V p6=some (.box zN)) {M:Obj} (Vm:V m=some M) (hM:∀ L,M ≠ .arr 1 L) (hm7:¬ p7=m) (VA:AI σ p7 a V) (Vo:Own 1 σ (ty.map cI) tv V)
 (hv:c.val.length≤1000000) (hu:U8s c.val) (hal:c.all.length≤1000000) (hty:ty.length≤1000000) (hra:Rd 1 σ (c.all.map cB) av) {n r:Env→Store→Prop} {xx:Nat→Env→Store→Prop}
 (hgo:∀ a' tv' t,stepA c a = .ok a'→AI σ p7 a' t→t p4=some (.box zC)→t p6=some (.box zN)→t m=some M→Own 1 σ ((ty++[c.kind]).map cI) tv' t→n [(0,rv),(1,.bool inner),(4,.ptr p4 0),(6,.ptr p6 0),(7,.ptr p7 0),(8,tv'),(9,.mp m)] t∧xx 1 [(0,rv),(1,.bool inner),(4,.ptr p4 0),(6,.ptr p6 0),(7,.ptr p7 0),(8,tv'),(9,.mp m)] t)
 (hbad:∀ t nt,stepA c a = .error nt→Store.sub σ t→r [(4,.ptr p4 0),(5,.nils),(6,.ptr p6 0)] ((t.set p4 (.box zC)).set p6 (.box [.int .i64 3,.int .i64 nt.1,.sl 1 (nt.2.map cB)]))) :
 bwp Tryz.prog Tsq.t34_49 [(0,rv),(1,.bool inner),(4,.ptr p4 0),(6,.ptr p6 0),(7,.ptr p7 0),(8,tv),(9,.mp m),(10,.ptr x 0),(47,bo)] V n r xx:=by
 simp only [Tsq.t34_49]
 have zC9:zC.length=9:=rfl
 have szz:splice 0 zC zC=some zC:=rfl
 have szn:∀ x y z:AV,splice 0 [x,y,z] zN=some [x,y,z]:=fun _ _ _=>rfl
 have szl:splice 0 [.int .i64 0,.nils,.int .u32 0,.bool false,.int .u32 0,.bool false,.int .u32 0,.bool false,.nils] zC=some zC:=rfl
 simp only [Vx,↓vcPre,↓z0,↓reduceIte,vcPost,vcStd,Nat.reduceEqDiff,reduceCtorEq,Nat.reduceAdd,Nat.reduceLeDiff,Int.reduceLT,Int.reduceLE,↓u_setN]
 refine (c62 c.kind).Q ?_
 by_cases hw:wantOf c.kind=0
 ·rw [show ofOk c.kind=false by simp [ofOk,hw]]
  simp only [Vx,↓vcPre,↓z0,↓reduceIte,vcPost,vcStd,Nat.reduceEqDiff,reduceCtorEq,Nat.reduceAdd,Nat.reduceLeDiff,Int.reduceLT,Int.reduceLE,↓u_setN]
  have e1:andI c.fl 128=bitInt .and .i64 c.fl 128:=rfl
  have hst:stepA c a=if andI c.fl 128=0 then .error (2,c.all) else .ok a:=by unfold stepA;rw [if_pos hw]
  refine ⟨fun g => ?_,fun g => ?_⟩
  ·refine (s61 (hra.mono hV) (by omega) 2).Q ?_
   rintro r' t ⟨rfl,rfl⟩
   simp only [V4,V6,h46,h6,zC9,szz,szn,szl,↓vcPre,↓z0,↓reduceIte,vcPost,vcStd,Nat.reduceEqDiff,reduceCtorEq,Nat.reduceAdd,Nat.reduceLeDiff,Int.reduceLT,Int.reduceLE,↓u_setN]
   exact hbad _ (2,c.all) (by rw [hst,if_pos (e1.trans g)]) hV
  ·refine AllocQ.i0 fun b hb => ?_
   simp only [↓vcPre,↓z0,↓reduceIte,vcPost,vcStd,Nat.reduceEqDiff,reduceCtorEq,Nat.reduceAdd,Nat.reduceLeDiff,Int.reduceLT,Int.reduceLE,↓u_setN]
   have hsb:=Store.sub_set V b (.arr 1 [[.int .i64 c.kind]]) hb
   have hVA:=VA.2.1
   refine Own.appK (τ:=σ) (bytes:=8) (Store.sub_trans hV hsb) (Vo.mono hsb) (zo (Store.set_same _ _ _) rfl) (by simp;omega) fun v' t ht ho hk => ?_
   have kk:∀ q o,V q=some o→(∀ L,o ≠ .arr 1 L)→t q=some o:=fun q o hq hn=>hk _ _ (hsb _ _ hq) (fun L=>hn L)
   obtain ⟨q1,q2,pv,cv,q3,q4,q5⟩:=VA
   exact (hgo a v' t (by rw [hst,if_neg (by rw [e1];exact g)]) ⟨q1,ht,pv,cv,kk _ _ q3 (fun L e=>by cases e),q4,q5⟩ (kk _ _ V4 (fun L e=>by cases e)) (kk _ _ V6 (fun L e=>by cases e)) (kk _ _ Vm hM) (by simpa [cI] using ho)).2
 ·rw [show ofOk c.kind=true by simp [ofOk,hw]]
  simp only [Vx,↓vcPre,↓z0,↓reduceIte,vcPost,vcStd,Nat.reduceEqDiff,reduceCtorEq,Nat.reduceAdd,Nat.reduceLeDiff,Int.reduceLT,Int.reduceLE,↓u_setN]
  refine (s63 VA c hw hv hu hal hra).Q ?_
  rintro r' t ⟨hk,hpost⟩
  have t4:=hk _ _ h47 V4
  have t6:=hk _ _ h67 V6
  have tm:=hk _ _ m7 Vm
  have to:Own 1 σ (ty.map cI) tv t:=by
   rcases Vo with h | ⟨g,h1,h2,h3⟩
   ·exact .inl h
   ·refine .inr ⟨g,h1,h2,hk _ _ (fun e => ?_) h3⟩
    obtain ⟨_,_,pv,cv,h,_⟩:=VA
    rw [←e,h3] at h;cases h
  have tx:=hk _ _ (fun e=>hx7 e.symm) Vx
  cases hs:stepA c a with
  | ok a' =>
    rw [hs] at hpost
    obtain ⟨rfl,hA⟩:=hpost
    simp only [note0]
    simp only [↓vcPre,↓z0,↓reduceIte,vcPost,vcStd,Nat.reduceEqDiff,reduceCtorEq,Nat.reduceAdd,Nat.reduceLeDiff,Int.reduceLT,Int.reduceLE,↓u_setN]
    refine AllocQ.i0 fun b hb => ?_
    have hsb:Store.sub t ((t.set b (.box zN)).set b (.box zN)):=z5 (Store.sub_set _ _ _ hb) hb
    rw [show [AV.int .i64 0,.int .i64 0,.nils]=zN from rfl]
    have hbb:((t.set b (.box zN)).set b (.box zN)) b=some (.box zN):=Store.set_same _ _ _
    have szN:splice 0 zN zN=some zN:=rfl
    have z3:zN.length=3:=rfl
    have zt:List.take 1 zN=[.int .i64 0]:=rfl
    have d00:((0:Int)=0)=True:=by simp
    simp only [szN,↓vcPre,↓z0,↓reduceIte,vcPost,vcStd,Nat.reduceEqDiff,reduceCtorEq,Nat.reduceAdd,Nat.reduceLeDiff,Int.reduceLT,Int.reduceLE,↓u_setN]
    generalize (t.set b (.box zN)).set b (.box zN)=W at hsb hbb ⊢
    simp only [z3,zt,hsb _ _ tx,hsb _ _ t4,hsb _ _ t6,d00,↓vcPre,↓z0,↓reduceIte,vcPost,vcStd,Nat.reduceEqDiff,reduceCtorEq,Nat.reduceAdd,Nat.reduceLeDiff,Int.reduceLT,Int.reduceLE,↓u_setN]
    refine AllocQ.i0 fun d hd => ?_
    simp only [↓vcPre,↓z0,↓reduceIte,vcPost,vcStd,Nat.reduceEqDiff,reduceCtorEq,Nat.reduceAdd,Nat.reduceLeDiff,Int.reduceLT,Int.reduceLE,↓u_setN]
    have hsd:=Store.sub_set W d (.arr 1 [[.int .i64 c.kind]]) hd
    obtain ⟨q1,q2,pv,cv,q3,q4,q5⟩:=hA
    refine Own.appK (τ:=σ) (bytes:=8) (Store.sub_trans q2 (Store.sub_trans hsb hsd)) ((to.mono hsb).mono hsd) (zo (Store.set_same _ _ _) rfl) (by simp;omega) fun v' y hy ho hk2 => ?_
    have kk:∀ q o,t q=some o→(∀ L,o ≠ .arr 1 L)→y q=some o:=fun q o hq hn=>hk2 _ _ (hsd _ _ (hsb _ _ hq)) (fun L=>hn L)
    exact (hgo a' v' y hs ⟨q1,hy,pv,cv,kk _ _ q3 (fun L e=>by cases e),q4,q5⟩ (kk _ _ t4 (fun L e=>by cases e)) (kk _ _ t6 (fun L e=>by cases e)) (kk _ _ tm hM) (by simpa [cI] using ho)).1
  | error nt =>
    rw [hs] at hpost
    obtain ⟨rfl,hA⟩:=hpost
    simp only [noteV]
    simp only [↓vcPre,↓z0,↓reduceIte,vcPost,vcStd,Nat.reduceEqDiff,reduceCtorEq,Nat.reduceAdd,Nat.reduceLeDiff,Int.reduceLT,Int.reduceLE,↓u_setN]
    refine AllocQ.i0 fun b hb => ?_
    simp only [↓vcPre,↓z0,↓reduceIte,vcPost,vcStd,Nat.reduceEqDiff,reduceCtorEq,Nat.reduceAdd,Nat.reduceLeDiff,Int.reduceLT,Int.reduceLE,↓u_setN]
    have hsb:Store.sub t ((t.set b (.box [.int .i64 0,.int .i64 0,.nils])).set b (.box [.int .i64 3,.int .i64 nt.1,.sl 1 (nt.2.map cB)])):=z5 (Store.sub_set _ _ _ hb) hb
    have hbb:((t.set b (.box [.int .i64 0,.int .i64 0,.nils])).set b (.box [.int .i64 3,.int .i64 nt.1,.sl 1 (nt.2.map cB)])) b=some (.box [.int .i64 3,.int .i64 nt.1,.sl 1 (nt.2.map cB)]):=Store.set_same _ _ _
    generalize (t.set b (.box [.int .i64 0,.int .i64 0,.nils])).set b (.box [.int .i64 3,.int .i64 nt.1,.sl 1 (nt.2.map cB)])=W at hsb hbb ⊢
    have b4:¬ p4=b:=fun e=>by rw [e,hb] at t4;cases t4
    have b4':¬ b=p4:=fun e=>b4 e.symm
    have d30:((3:Int)=0)=False:=by simp
    simp only [d30,hsb _ _ t4,hsb _ _ t6,hbb,h46,h6,b4,b4',zC9,szz,szn,szl,↓vcPre,↓z0,↓reduceIte,vcPost,vcStd,Nat.reduceEqDiff,reduceCtorEq,Nat.reduceAdd,Nat.reduceLeDiff,Int.reduceLT,Int.reduceLE,↓u_setN]
    exact ⟨hbad _ nt hs (Store.sub_trans hA hsb),hbad _ nt hs (Store.sub_trans hA hsb)⟩
theorem zcm {f:Nat} {cells cells':List AV} {s:Store} {Q:AV→Store→Prop} (hi:ImpL cells cells') (h:ACalls Tryz.prog f [.agg cells'] s Q):ACalls Tryz.prog f [.agg cells] s Q :=
 ACalls.weakArgs h.1 (WeakL.pos 0 rfl (Imp.agg hi (WeakL.pure h)))
theorem AI.imp {a:At} {pv cv:AV} (hp:pv = .sl 2 (a.path.map Seg.c)∨pv = .nils∧a.path=[]) (hc:cv = .sl 1 (a.cms.map cU)∨cv = .nils∧a.cms=[]):ImpL [.int .i64 a.org,pv,.int .u32 a.nxt,.bool a.hm,.int .u32 a.med,.bool a.hp,.int .u32 a.prf,.bool a.atm,cv] a.c:=by
 have h1:Imp pv (.sl 2 (a.path.map Seg.c)):=by
  rcases hp with rfl | ⟨rfl,e⟩
  ·exact .refl rfl
  ·rw [e];exact .nils
 have h2:Imp cv (.sl 1 (a.cms.map cU)):=by
  rcases hc with rfl | ⟨rfl,e⟩
  ·exact .refl rfl
  ·rw [e];exact .nils
 exact .cons (.refl rfl) (.cons h1 (.cons (.refl rfl) (.cons (.refl rfl) (.cons (.refl rfl) (.cons (.refl rfl) (.cons (.refl rfl) (.cons (.refl rfl) (.cons h2 .nil))))))))
def InvD (σ:Store) (p4 p6 p7 m:Nat) (inner:Bool) (B0:List Int) (w:(List Int×AV)×(At×List Int)×(List Int×AV)×Store):Prop :=
 Rd 1 σ (w.1.1.map cB) w.1.2∧U8s w.1.1∧AI σ p7 w.2.1.1 w.2.2.2∧w.2.1.1.ok∧w.2.2.2 p4=some (.box zC)∧w.2.2.2 p6=some (.box zN)∧w.2.2.2 m=some (.map (seenM w.2.1.2.reverse)) ∧
  Own 1 σ (w.2.2.1.1.map cI) w.2.2.1.2 w.2.2.2∧w.2.2.1.1.length+w.1.1.length≤B0.length∧decL inner w.1.1.length w.1.1 w.2.1.1 w.2.1.2 w.2.2.1.1=decL inner B0.length B0 zeroAt [] []
theorem z38 {b:List Int} {c:Ch} (hu:U8s b) (h:chunk b=some c):U8s c.val∧U8s c.rest∧c.val.length≤b.length∧c.all.length≤b.length:=by
 have ht:∀ (l:List Int) (n:Nat),(∀ x ∈ l,x ∈ b)→U8s (l.take n)∧U8s (l.drop n):=fun l n hl=>⟨fun x hx=>hu x (hl x (List.mem_of_mem_take hx)),fun x hx=>hu x (hl x (List.mem_of_mem_drop hx))⟩
 unfold chunk at h
 split at h
 ·split at h
  ·split at h
   ·cases h
   ·cases h
    refine ⟨(ht _ _ fun x hx=>by simp [hx]).1,(ht _ _ fun x hx=>by simp [hx]).2,by simp;omega,by simp;omega⟩
  ·split at h
   ·split at h
    ·cases h
    ·cases h
     refine ⟨(ht _ _ fun x hx=>by simp [hx]).1,(ht _ _ fun x hx=>by simp [hx]).2,by simp;omega,by simp;omega⟩
   ·cases h
 ·cases h
set_option maxHeartbeats 1000000 in
theorem zh6 {σ:Store} {B:List Int} {v:AV} (hr:Rd 1 σ (B.map cB) v) (hB:B.length≤1000000) (hu:U8s B) (inner:Bool):ACalls Tryz.prog 34 [v,.bool inner] σ (fun r s=>Store.sub σ s∧∃ tv,r=outO (decA inner B) tv∧Own 1 σ (tyO (decA inner B)) tv s):=by
 refine zd Tsq.F34 (by simp [Tsq.F34,Fn.mkX]) ?_
 simp only [Tsq.F34,Fn.mkX,Tsq.b34]
 simp only [↓vcPre,↓z0,↓reduceIte,vcPost,vcStd,Nat.reduceEqDiff,reduceCtorEq,Nat.reduceAdd,Nat.reduceLeDiff,Int.reduceLT,Int.reduceLE,↓u_setN]
 refine AllocQ.i0 fun p4 h4 => ?_
 simp only [↓vcPre,↓z0,↓reduceIte,vcPost,vcStd,Nat.reduceEqDiff,reduceCtorEq,Nat.reduceAdd,Nat.reduceLeDiff,Int.reduceLT,Int.reduceLE,↓u_setN]
 refine AllocQ.i1 fun p6 h6 h46 h6s => ?_
 simp only [↓vcPre,↓z0,↓reduceIte,vcPost,vcStd,Nat.reduceEqDiff,reduceCtorEq,Nat.reduceAdd,Nat.reduceLeDiff,Int.reduceLT,Int.reduceLE,↓u_setN]
 refine AllocQ.i2 fun p7 h74 h47 h76 h67 h7s => ?_
 simp only [↓vcPre,↓z0,↓reduceIte,vcPost,vcStd,Nat.reduceEqDiff,reduceCtorEq,Nat.reduceAdd,Nat.reduceLeDiff,Int.reduceLT,Int.reduceLE,↓u_setN]
 rw [show [AV.int .i64 0,.nils,.int .u32 0,.bool false,.int .u32 0,.bool false,.int .u32 0,.bool false,.nils]=zC from rfl,show [AV.int .i64 0,.int .i64 0,.nils]=zN from rfl]
 have T4:(((σ.set p4 (.box zC)).set p6 (.box zN)).set p7 (.box zC)) p4=some (.box zC):=by rw [Store.set_ne _ _ h47,Store.set_ne _ _ h46,Store.set_same]
 have T6:(((σ.set p4 (.box zC)).set p6 (.box zN)).set p7 (.box zC)) p6=some (.box zN):=by rw [Store.set_ne _ _ h67,Store.set_same]
 have T7:(((σ.set p4 (.box zC)).set p6 (.box zN)).set p7 (.box zC)) p7=some (.box zC):=Store.set_same _ _ _
 have sT:Store.sub σ (((σ.set p4 (.box zC)).set p6 (.box zN)).set p7 (.box zC)):=z5 (z5 (z5 (Store.sub_refl _) h4) h6s) h7s
 generalize ((σ.set p4 (.box zC)).set p6 (.box zN)).set p7 (.box zC)=T at T4 T6 T7 sT ⊢
 refine AllocQ.i0 fun m hm => ?_
 have hσm:σ m=none:=zi sT hm
 have m4:¬ m=p4:=fun e=>by rw [e,T4] at hm;cases hm
 have m6:¬ m=p6:=fun e=>by rw [e,T6] at hm;cases hm
 have m7:¬ m=p7:=fun e=>by rw [e,T7] at hm;cases hm
 have n4:¬ p4=m:=fun e=>m4 e.symm
 have n6:¬ p6=m:=fun e=>m6 e.symm
 have n7:¬ p7=m:=fun e=>m7 e.symm
 simp only [↓vcPre,↓z0,↓reduceIte,vcPost,vcStd,Nat.reduceEqDiff,reduceCtorEq,Nat.reduceAdd,Nat.reduceLeDiff,Int.reduceLT,Int.reduceLE,↓u_setN]
 have zC9:zC.length=9:=rfl
 have szz:splice 0 zC zC=some zC:=rfl
 have szn:∀ x y z:AV,splice 0 [x,y,z] zN=some [x,y,z]:=fun _ _ _=>rfl
 have bad:∀ (t:Store) (n:Nt),Store.sub σ t→decL inner B.length B zeroAt [] [] = .error n → @EndQ [(4,.ptr p4 0),(5,.nils),(6,.ptr p6 0)] ((t.set p4 (.box zC)).set p6 (.box [.int .i64 3,.int .i64 n.1,.sl 1 (n.2.map cB)])) ⟨Tsq.F34.slots,fun r s=>Store.sub σ s∧∃ tv,r=outO (decA inner B) tv∧Own 1 σ (tyO (decA inner B)) tv s⟩:=by
  intro t n ht he
  refine EndQ.three (cs:=zC) (cs':=zeroAt.c) (ns:=[.int .i64 3,.int .i64 n.1,.sl 1 (n.2.map cB)]) (ns':=[.int .i64 3,.int .i64 n.1,.sl 1 (n.2.map cB)]) (tv := .nils) ?_ zC_imp (ImpL.refl _ (by simp [AV.flat])) ⟨z5 (z5 ht h4) h6s,.nils,?_,?_⟩
  ·show Env.res [(4,AV.ptr p4 0),(5,.nils),(6,AV.ptr p6 0)] _ [RS.c 4 9 true,RS.t 5,RS.c 6 3 true]=_
   simp only [h46,h6,Store.set_same,↓vcPre,↓z0,↓reduceIte,vcPost,vcStd,Nat.reduceEqDiff,reduceCtorEq,Nat.reduceAdd,Nat.reduceLeDiff,Int.reduceLT,Int.reduceLE,↓u_setN]
   rfl
  ·simp only [decA,he,outO]
  ·simp only [decA,he,tyO];exact Own.nil
 refine LoopQ.inv (S:=(List Int×AV)×(At×List Int)×(List Int×AV)×Store) (fun w=>[(0,w.1.2),(1,.bool inner),(4,.ptr p4 0),(6,.ptr p6 0),(7,.ptr p7 0),(8,w.2.2.1.2),(9,.mp m)]) (fun w=>w.2.2.2) (InvD σ p4 p6 p7 m inner B) (fun w=>w.1.1.length) ((B,v),(zeroAt,[]),([],.nils),T.set m (.map [])) rfl (Store.sub_refl _) ⟨hr,hu,⟨h7s,z5 sT hσm,.nils,.nils,(Store.set_ne _ _ n7).trans T7,.inr ⟨rfl,rfl⟩,.inr ⟨rfl,rfl⟩⟩,yg,(Store.set_ne _ _ n4).trans T4,(Store.set_ne _ _ n6).trans T6,Store.set_same _ _ _,Own.nil,by simp,rfl⟩ ?_
 rintro ⟨⟨B1,bv⟩,⟨a,S⟩,⟨ty,tv⟩,s⟩ ⟨k1,k2,k3,k4,k5,k6,k7,k8,k9,k10⟩
 simp only at k1 k2 k3 k4 k5 k6 k7 k8 k9 k10
 have hlen:pv .len [bv]=some (.int .i64 (B1.length:Int)):=by rw [k1.2];simp
 simp only [hlen,↓vcPre,↓z0,↓reduceIte,vcPost,vcStd,Nat.reduceEqDiff,reduceCtorEq,Nat.reduceAdd,Nat.reduceLeDiff,Int.reduceLT,Int.reduceLE,↓u_setN]
 have hσs:=k3.2.1
 refine ⟨fun c1 => ?_,fun c1 => ?_⟩
 ·obtain ⟨x0,B2,hB2⟩:∃ x r,B1=x::r:=by cases B1 with | nil=>simp at c1 | cons x r=>exact ⟨x,r,rfl⟩
  refine (s60 k3.2.1 k1 (by omega) k2).Q ?_
  rintro r s1 ⟨rfl,hcr⟩
  have hstep:decL inner B1.length B1 a S ty=match chunk B1 with
   | none => .error (1,[])
   | some c=>if c.kind ∈ S then .error (1,[]) else if c.kind=5∧inner=false then decL inner c.rest.length c.rest a (c.kind::S) ty
     else match stepA c a with | .error n => .error n | .ok a'=>decL inner c.rest.length c.rest a' (c.kind::S) (ty++[c.kind]):=by
   rw [hB2]
   show decL inner (B2.length+1) (x0::B2) a S ty=_
   simp only [decL]
   cases hc:chunk (x0::B2) with
   | none=>rfl
   | some c =>
     have hl:=wi hc
     simp only [List.length_cons] at hl
     have e:=fun a S ty=>vu inner B2.length c.rest.length c.rest a S ty (by omega) (Nat.le_refl _)
     simp only [e]
     rfl
  rw [k10] at hstep
  cases hc:chunk B1 with
  | none =>
    rw [hc] at hcr hstep
    subst hcr
    simp only [↓vcPre,↓z0,↓reduceIte,vcPost,vcStd,Nat.reduceEqDiff,reduceCtorEq,Nat.reduceAdd,Nat.reduceLeDiff,Int.reduceLT,Int.reduceLE,↓u_setN]
    refine AllocQ.i0 fun x hx => ?_
    simp only [↓vcPre,↓z0,↓reduceIte,vcPost,vcStd,Nat.reduceEqDiff,reduceCtorEq,Nat.reduceAdd,Nat.reduceLeDiff,Int.reduceLT,Int.reduceLE,↓u_setN]
    have sU:Store.sub s1 ((s1.set x (.box [.int .i64 0,.int .i64 0,.nils,.nils])).set x (.box [.int .i64 0,.int .i64 0,.nils,.nils])):=z5 (Store.sub_set _ _ _ hx) hx
    have Ux:((s1.set x (.box [.int .i64 0,.int .i64 0,.nils,.nils])).set x (.box [.int .i64 0,.int .i64 0,.nils,.nils])) x=some (.box [.int .i64 0,.int .i64 0,.nils,.nils]):=Store.set_same _ _ _
    generalize (s1.set x (.box [.int .i64 0,.int .i64 0,.nils,.nils])).set x (.box [.int .i64 0,.int .i64 0,.nils,.nils])=U at sU Ux ⊢
    have U4:=sU _ _ k5
    have U6:=sU _ _ k6
    have Um:=sU _ _ k7
    have σU:=Store.sub_trans hσs sU
    refine (s61 (M:=[]) Rd.nils (by simp) 1).Q ?_
    rintro r t ⟨rfl,rfl⟩
    simp only [U4,U6,h46,h6,zC9,szz,szn,↓vcPre,↓z0,↓reduceIte,vcPost,vcStd,Nat.reduceEqDiff,reduceCtorEq,Nat.reduceAdd,Nat.reduceLeDiff,Int.reduceLT,Int.reduceLE,↓u_setN]
    exact bad _ (1,[]) σU hstep
  | some c =>
    rw [hc] at hcr hstep
    simp only at hcr hstep
    obtain ⟨av,rv,rfl,hra,hrr⟩:=hcr
    have hcl:=wi hc
    have cu:=z38 k2 hc
    simp only [↓vcPre,↓z0,↓reduceIte,vcPost,vcStd,Nat.reduceEqDiff,reduceCtorEq,Nat.reduceAdd,Nat.reduceLeDiff,Int.reduceLT,Int.reduceLE,↓u_setN]
    refine AllocQ.i0 fun x hx => ?_
    simp only [↓vcPre,↓z0,↓reduceIte,vcPost,vcStd,Nat.reduceEqDiff,reduceCtorEq,Nat.reduceAdd,Nat.reduceLeDiff,Int.reduceLT,Int.reduceLE,↓u_setN]
    have sU:Store.sub s1 ((s1.set x (.box [.int .i64 0,.int .i64 0,.nils,.nils])).set x (.box [.int .i64 c.fl,.int .i64 c.kind,.sl 1 (c.val.map cB),av])):=z5 (Store.sub_set _ _ _ hx) hx
    have Ux:((s1.set x (.box [.int .i64 0,.int .i64 0,.nils,.nils])).set x (.box [.int .i64 c.fl,.int .i64 c.kind,.sl 1 (c.val.map cB),av])) x=some (.box [.int .i64 c.fl,.int .i64 c.kind,.sl 1 (c.val.map cB),av]):=Store.set_same _ _ _
    generalize (s1.set x (.box [.int .i64 0,.int .i64 0,.nils,.nils])).set x (.box [.int .i64 c.fl,.int .i64 c.kind,.sl 1 (c.val.map cB),av])=U at sU Ux ⊢
    have U4:=sU _ _ k5
    have U6:=sU _ _ k6
    have Um:=sU _ _ k7
    have σU:=Store.sub_trans hσs sU
    have hx7:¬ p7=x:=fun e=>by obtain ⟨_,_,pv,cv,h,_⟩:=k3;rw [e,hx] at h;cases h
    have hx4:¬ p4=x:=fun e=>by rw [e,hx] at k5;cases k5
    have hx6:¬ p6=x:=fun e=>by rw [e,hx] at k6;cases k6
    have hxm:¬ m=x:=fun e=>by rw [e,hx] at k7;cases k7
    have g7:¬ x=p7:=fun e=>hx7 e.symm
    have gm:¬ x=m:=fun e=>hxm e.symm
    have g4:¬ x=p4:=fun e=>hx4 e.symm
    have g6:¬ x=p6:=fun e=>hx6 e.symm
    rw [zau Um]
    by_cases hk:c.kind ∈ S
    ·rw [if_pos hk] at hstep
     rw [decide_eq_true (List.mem_reverse.2 hk)]
     simp only [↓vcPre,↓z0,↓reduceIte,vcPost,vcStd,Nat.reduceEqDiff,reduceCtorEq,Nat.reduceAdd,Nat.reduceLeDiff,Int.reduceLT,Int.reduceLE,↓u_setN]
     refine (s61 (M:=[]) Rd.nils (by simp) 1).Q ?_
     rintro r t ⟨rfl,rfl⟩
     simp only [U4,U6,h46,h6,zC9,szz,szn,↓vcPre,↓z0,↓reduceIte,vcPost,vcStd,Nat.reduceEqDiff,reduceCtorEq,Nat.reduceAdd,Nat.reduceLeDiff,Int.reduceLT,Int.reduceLE,↓u_setN]
     exact bad _ (1,[]) σU hstep
    ·rw [if_neg hk] at hstep
     have hk':c.kind ∉ S.reverse:=fun h=>hk (List.mem_reverse.1 h)
     rw [decide_eq_false hk']
     simp only [↓vcPre,↓z0,↓reduceIte,vcPost,vcStd,Nat.reduceEqDiff,reduceCtorEq,Nat.reduceAdd,Nat.reduceLeDiff,Int.reduceLT,Int.reduceLE,↓u_setN]
     refine z9v Um hk' ?_
     rw [←List.reverse_cons]
     have hV:Store.sub σ (U.set m (.map (seenM (c.kind::S).reverse))):=z5 σU hσm
     have Vx:(U.set m (.map (seenM (c.kind::S).reverse))) x=some (.box [.int .i64 c.fl,.int .i64 c.kind,.sl 1 (c.val.map cB),av]):=by rw [Store.set_ne _ _ gm];exact Ux
     have V4:(U.set m (.map (seenM (c.kind::S).reverse))) p4=some (.box zC):=by rw [Store.set_ne _ _ n4];exact U4
     have V6:(U.set m (.map (seenM (c.kind::S).reverse))) p6=some (.box zN):=by rw [Store.set_ne _ _ n6];exact U6
     have Vm:(U.set m (.map (seenM (c.kind::S).reverse))) m=some (.map (seenM (c.kind::S).reverse)):=Store.set_same _ _ _
     have VA:AI σ p7 a (U.set m (.map (seenM (c.kind::S).reverse))):=by
      obtain ⟨q1,q2,pv,cv,q3,q4,q5⟩:=k3
      exact ⟨q1,hV,pv,cv,by rw [Store.set_ne _ _ n7];exact sU _ _ q3,q4,q5⟩
     have Vo:Own 1 σ (ty.map cI) tv (U.set m (.map (seenM (c.kind::S).reverse))):=(k8.mono sU).setId Um (fun M e=>by cases e)
     generalize U.set m (.map (seenM (c.kind::S).reverse))=V at hV Vx V4 V6 Vm VA Vo ⊢
     simp only [Vx,↓vcPre,↓z0,↓reduceIte,vcPost,vcStd,Nat.reduceEqDiff,reduceCtorEq,Nat.reduceAdd,Nat.reduceLeDiff,Int.reduceLT,Int.reduceLE,↓u_setN]
     have next:∀ (a':At) (ty':List Int) (tv':AV) (t:Store),AI σ p7 a' t→a'.ok→t p4=some (.box zC)→t p6=some (.box zN)→t m=some (.map (seenM (c.kind::S).reverse))→Own 1 σ (ty'.map cI) tv' t→ty'.length≤ty.length+1→decL inner B.length B zeroAt [] []=decL inner c.rest.length c.rest a' (c.kind::S) ty' →
      InvD σ p4 p6 p7 m inner B ((c.rest,rv),(a',c.kind::S),(ty',tv'),t):=by
      intro a' ty' tv' t g1 g2 g3 g4' g5 g6' g7' g8
      exact ⟨hrr,cu.2.1,g1,g2,g3,g4',g5,g6',by simp only;omega,g8.symm⟩
     have go5:c.kind=5∧inner=false→InvD σ p4 p6 p7 m inner B ((c.rest,rv),(a,c.kind::S),(ty,tv),V):=fun h=>next a ty tv V VA k4 V4 V6 Vm Vo (by omega) (by rw [hstep,if_pos h])
     refine ⟨fun e5 => ?_,fun e5 => ?_⟩
     ·cases inner with
      | false =>
        simp only [↓vcPre,↓z0,↓reduceIte,vcPost,vcStd,Nat.reduceEqDiff,reduceCtorEq,Nat.reduceAdd,Nat.reduceLeDiff,Int.reduceLT,Int.reduceLE,↓u_setN]
        exact NextQ.to ((c.rest,rv),(a,c.kind::S),(ty,tv),V) rfl (Store.sub_refl _) (by simp only;omega) (go5 ⟨e5,rfl⟩)
      | true =>
        have hn:¬ (c.kind=5∧true=false):=by simp
        simp only [↓vcPre,↓z0,↓reduceIte,vcPost,vcStd,Nat.reduceEqDiff,reduceCtorEq,Nat.reduceAdd,Nat.reduceLeDiff,Int.reduceLT,Int.reduceLE,↓u_setN]
        refine z7r (σ:=σ) true c a ty h46 h6 hx4 hx6 hx7 h47 h67 m7 hV Vx V4 V6 Vm (fun L e=>by cases e) n7 VA Vo (by omega) cu.1 (by omega) (by omega) hra (fun a' tv' t g0 g1 g3 g4' g5 g6' => ?_) (fun t nt g0 g1 => ?_)
        ·have I:=next a' (ty++[c.kind]) tv' t g1 (z0w g0 k4 (by omega)) g3 g4' g5 g6' (by simp) (by rw [hstep,if_neg hn,g0])
         refine ⟨NextQ.to ((c.rest,rv),(a',c.kind::S),(ty++[c.kind],tv'),t) rfl (Store.sub_refl _) (by simp only;omega) I,?_⟩
         rw [if_pos rfl]
         exact NextQ.to ((c.rest,rv),(a',c.kind::S),(ty++[c.kind],tv'),t) rfl (Store.sub_refl _) (by simp only;omega) I
        ·exact bad t nt g1 (by rw [hstep,if_neg hn,g0])
     ·have hn:¬ (c.kind=5∧inner=false):=fun h=>e5 h.1
      refine z7r (σ:=σ) inner c a ty h46 h6 hx4 hx6 hx7 h47 h67 m7 hV Vx V4 V6 Vm (fun L e=>by cases e) n7 VA Vo (by omega) cu.1 (by omega) (by omega) hra (fun a' tv' t g0 g1 g3 g4' g5 g6' => ?_) (fun t nt g0 g1 => ?_)
      ·have I:=next a' (ty++[c.kind]) tv' t g1 (z0w g0 k4 (by omega)) g3 g4' g5 g6' (by simp) (by rw [hstep,if_neg hn,g0])
       refine ⟨NextQ.to ((c.rest,rv),(a',c.kind::S),(ty++[c.kind],tv'),t) rfl (Store.sub_refl _) (by simp only;omega) I,?_⟩
       rw [if_pos rfl]
       exact NextQ.to ((c.rest,rv),(a',c.kind::S),(ty++[c.kind],tv'),t) rfl (Store.sub_refl _) (by simp only;omega) I
      ·exact bad t nt g1 (by rw [hstep,if_neg hn,g0])
 ·have hB0:B1=[]:=by cases B1 with | nil=>rfl | cons x r=>simp at c1
  subst hB0
  simp only [Tsq.t34_82]
  have hfin:decL inner B.length B zeroAt [] [] = .ok (a,ty):=by rw [←k10];rfl
  simp only [↓vcPre,↓z0,↓reduceIte,vcPost,vcStd,Nat.reduceEqDiff,reduceCtorEq,Nat.reduceAdd,Nat.reduceLeDiff,Int.reduceLT,Int.reduceLE,↓u_setN]
  have e9:∀ x:At,x.c.length=9:=fun _=>rfl
  have spZ:∀ x:At,splice 0 x.c zC=some x.c:=fun _=>rfl
  have snl:splice 0 [.int .i64 0,.int .i64 0,.nils] zN=some zN:=rfl
  have z3:zN.length=3:=rfl
  obtain ⟨q1,q2,pv,cv,q3,q4,q5⟩:=k3
  have fin:∀ (t:Store) (ty':List Int),ty'=ty.mergeSort leI→Store.sub σ t→t p7=some (.box [.int .i64 a.org,pv,.int .u32 a.nxt,.bool a.hm,.int .u32 a.med,.bool a.hp,.int .u32 a.prf,.bool a.atm,cv])→t p4=some (.box zC)→t p6=some (.box zN)→Own 1 σ (ty'.map cI) tv t →
   ACalls Tryz.prog 65 [.agg [.int .i64 a.org,pv,.int .u32 a.nxt,.bool a.hm,.int .u32 a.med,.bool a.hp,.int .u32 a.prf,.bool a.atm,cv]] t (fun r s'=>s'=t∧r = .agg (canonA a).c) ∧
   @EndQ [(4,.ptr p4 0),(5,tv),(6,.ptr p6 0)] ((t.set p4 (.box (canonA a).c)).set p6 (.box zN)) ⟨Tsq.F34.slots,fun r s=>Store.sub σ s∧∃ tv,r=outO (decA inner B) tv∧Own 1 σ (tyO (decA inner B)) tv s⟩:=by
   intro t ty' hty ht h7 h4' h6' ho
   refine ⟨zcm (AI.imp q4 q5) (c65 a k4 t),?_⟩
   have ho2:Own 1 σ (ty'.map cI) tv ((t.set p4 (.box (canonA a).c)).set p6 (.box zN)):=(ho.setId h4' (fun M e=>by cases e)).setId (by rw [Store.set_ne _ _ h6];exact h6') (fun M e=>by cases e)
   refine EndQ.three (cs:=(canonA a).c) (cs':=(canonA a).c) (ns:=zN) (ns':=[.int .i64 0,.int .i64 0,.sl 1 []]) (tv:=tv) ?_ (ImpL.refl _ (fun c hc => ?_)) (.cons (.refl rfl) (.cons (.refl rfl) (.cons .nils .nil))) ⟨z5 (z5 ht h4) h6s,tv,?_,?_⟩
   ·show Env.res [(4,AV.ptr p4 0),(5,tv),(6,AV.ptr p6 0)] _ [RS.c 4 9 true,RS.t 5,RS.c 6 3 true]=_
    simp only [h46,h6,Store.set_same,↓vcPre,↓z0,↓reduceIte,vcPost,vcStd,Nat.reduceEqDiff,reduceCtorEq,Nat.reduceAdd,Nat.reduceLeDiff,Int.reduceLT,Int.reduceLE,↓u_setN]
    rfl
   ·simp only [At.c,List.mem_cons,List.not_mem_nil,or_false] at hc
    rcases hc with rfl | rfl | rfl | rfl | rfl | rfl | rfl | rfl | rfl <;> rfl
   ·simp only [decA,hfin,outO]
   ·simp only [decA,hfin,tyO];rw [←hty];exact ho2
  rcases k8 with ⟨hL,hv⟩ | ⟨g,hv,hg,hh⟩
  ·have hnil:ty=[]:=List.map_eq_nil_iff.1 hL
   subst hv
   refine (z52 hI s).Q ?_
   rintro r t ⟨rfl,rfl⟩
   have F:=fin t ty (by rw [hnil];simp) q2 q3 k5 k6 (.inl ⟨hL,rfl⟩)
   simp only [q3,↓vcPre,↓z0,↓reduceIte,vcPost,vcStd,Nat.reduceEqDiff,reduceCtorEq,Nat.reduceAdd,Nat.reduceLeDiff,Int.reduceLT,Int.reduceLE,↓u_setN]
   refine F.1.Q ?_
   rintro r t' ⟨rfl,rfl⟩
   simp only [k5,k6,h46,h6,e9,spZ,snl,z3,↓vcPre,↓z0,↓reduceIte,vcPost,vcStd,Nat.reduceEqDiff,reduceCtorEq,Nat.reduceAdd,Nat.reduceLeDiff,Int.reduceLT,Int.reduceLE,↓u_setN]
   exact F.2
  ·rw [List.length_map] at hv
   subst hv
   refine (z3i hI hh (by omega)).Q ?_
   rintro r t ⟨rfl,L',hp1,hp2,rfl⟩
   have g7:¬ p7=g:=fun e=>by rw [e,hh] at q3;cases q3
   have g4:¬ p4=g:=fun e=>by rw [e,hh] at k5;cases k5
   have g6:¬ p6=g:=fun e=>by rw [e,hh] at k6;cases k6
   have t7:(s.set g (.arr 1 (L'.map (cK .i64)))) p7=some (.box [.int .i64 a.org,pv,.int .u32 a.nxt,.bool a.hm,.int .u32 a.med,.bool a.hp,.int .u32 a.prf,.bool a.atm,cv]):=by rw [Store.set_ne _ _ g7];exact q3
   have t4:(s.set g (.arr 1 (L'.map (cK .i64)))) p4=some (.box zC):=by rw [Store.set_ne _ _ g4];exact k5
   have t6:(s.set g (.arr 1 (L'.map (cK .i64)))) p6=some (.box zN):=by rw [Store.set_ne _ _ g6];exact k6
   have F:=fin (s.set g (.arr 1 (L'.map (cK .i64)))) L' (z0v hp1 hp2) (z5 q2 hg) t7 t4 t6 (.inr ⟨g,by simp [hp1.length_eq],hg,Store.set_same _ _ _⟩)
   generalize s.set g (.arr 1 (L'.map (cK .i64)))=t at t7 t4 t6 F ⊢
   simp only [t7,↓vcPre,↓z0,↓reduceIte,vcPost,vcStd,Nat.reduceEqDiff,reduceCtorEq,Nat.reduceAdd,Nat.reduceLeDiff,Int.reduceLT,Int.reduceLE,↓u_setN]
   refine F.1.Q ?_
   rintro r t' ⟨rfl,rfl⟩
   simp only [t4,t6,h46,h6,e9,spZ,snl,z3,↓vcPre,↓z0,↓reduceIte,vcPost,vcStd,Nat.reduceEqDiff,reduceCtorEq,Nat.reduceAdd,Nat.reduceLeDiff,Int.reduceLT,Int.reduceLE,↓u_setN]
   exact F.2
theorem s34 {σ:Store} {B:List Int} {v:AV} (hr:Rd 1 σ (B.map cB) v) (hB:B.length≤1000000) (hu:U8s B) (inner:Bool):ACalls Tryz.prog 34 [v,.bool inner] σ (fun r s=>s=σ∧r=outD (decA inner B)):=by
 refine (zh6 hr hB hu inner).weakRes ?_
 rintro r s ⟨hs,tv,rfl,ho⟩
 cases h:decA inner B with
 | error n=>rw [h] at ho;exact Weak.tup (z44 (Q:=fun a s=>s=σ∧a=outD (.error n)) ho hs ⟨rfl,rfl⟩)
 | ok x=>rw [h] at ho;exact Weak.tup (z44 (Q:=fun a s=>s=σ∧a=outD (.ok x)) ho hs ⟨rfl,rfl⟩)
end Go.Am
namespace Go.Am
open Go.Proofs Go.Sort
theorem c71 (p:List Seg) (h:p.length≤1000000) (ho:∀ s ∈ p,s.ok):Pur Tryz.prog 71 [.sl 2 (p.map Seg.c)] (.sl 2 (p.map Seg.c)):=by
 intro σ
 refine zd Tst.F71 (by simp [Tst.F71,Fn.mkX]) ?_
 simp only [Tst.F71,Fn.mkX,Tst.b71]
 simp only [↓vcPre,↓z0,↓reduceIte,vcPost,vcStd,Nat.reduceEqDiff,reduceCtorEq,Nat.reduceAdd,Nat.reduceLeDiff,Int.reduceLT,Int.reduceLE,↓u_setN]
 refine LoopQ.inv (S:=Nat×AV×Store) (fun q=>[(0,.sl 2 (p.map Seg.c)),(3,q.2.1),(4,.int .i64 (q.1:Int))]) (fun q=>q.2.2)
  (fun q=>q.1≤p.length∧Store.sub σ q.2.2∧OwnP σ (p.take q.1) q.2.1 q.2.2) (fun q=>p.length+1 - q.1) (0,.nils,σ) rfl (Store.sub_refl _) ⟨by simp only;omega,Store.sub_refl _,OwnP.nil⟩ ?_
 rintro ⟨k,v,s⟩ ⟨hk,hs,ho'⟩
 simp only at hk hs ho'
 simp only [↓vcPre,↓z0,↓reduceIte,vcPost,vcStd,Nat.reduceEqDiff,reduceCtorEq,Nat.reduceAdd,Nat.reduceLeDiff,Int.reduceLT,Int.reduceLE,↓u_setN]
 refine ⟨fun c1 => ?_,fun c1 => ?_⟩
 ·have ek:IntKind.i64.wrap ((k:Int)+1)=((k+1:Nat):Int):=by rw [z7 (by unfold I64;omega)];omega
  have hx:=ho _ (List.getElem_mem c1)
  unfold Seg.ok at hx
  refine ⟨c1,c1,by simp [Seg.c],?_⟩
  simp only [Seg.c,↓vcPre,↓z0,↓reduceIte,vcPost,vcStd,Nat.reduceEqDiff,reduceCtorEq,Nat.reduceAdd,Nat.reduceLeDiff,Int.reduceLT,Int.reduceLE,↓u_setN]
  have hroom:(([]:List (List AV)).length+(p[k].ls.map cU).length)*4≤140737488355328:=by simp;omega
  refine ⟨?_,?_⟩
  ·refine AllocQ.i0 fun i hi => ?_
   simp only [↓vcPre,↓z0,↓reduceIte,vcPost,vcStd,Nat.reduceEqDiff,reduceCtorEq,Nat.reduceAdd,Nat.reduceLeDiff,Int.reduceLT,Int.reduceLE,↓u_setN]
   refine xo (zo (Store.set_same _ _ _) rfl) vp hroom fun j hj => ?_
   simp only [↓vcPre,↓z0,↓reduceIte,vcPost,vcStd,Nat.reduceEqDiff,reduceCtorEq,Nat.reduceAdd,Nat.reduceLeDiff,Int.reduceLT,Int.reduceLE,↓u_setN]
   have hji:j≠i:=fun e=>by subst e;rw [Store.set_same] at hj;cases hj
   have hj0:s j=none:=by rw [Store.set_ne _ _ hji] at hj;exact hj
   have hsub:Store.sub s (((s.set i (Obj.arr 1 [])).del i).set j (Obj.arr 1 (List.map cU p[k].ls))):=fun y o hy=>by
    have h1:y≠i:=fun e=>by subst e;rw [hi] at hy;cases hy
    have h2:y≠j:=fun e=>by subst e;rw [hj0] at hy;cases hy
    rw [Store.set_ne _ _ h2,Store.del_ne _ h1,Store.set_ne _ _ h1];exact hy
   have hjs:(((s.set i (Obj.arr 1 [])).del i).set j (Obj.arr 1 (List.map cU p[k].ls))) j=some (.arr 1 (p[k].ls.map cU)):=Store.set_same _ _ _
   refine AllocQ.i0 fun b hb => ?_
   simp only [Nat.zero_add,↓vcPre,↓z0,↓reduceIte,vcPost,vcStd,Nat.reduceEqDiff,reduceCtorEq,Nat.reduceAdd,Nat.reduceLeDiff,Int.reduceLT,Int.reduceLE,↓u_setN]
   refine OwnP.app (τ:=σ) (s0:=s) (x:=p[k]) (j:=j) hs (Store.sub_trans hsub (Store.sub_set _ b _ hb)) ho' (Store.sub_set _ b _ hb _ _ hjs) hj0 (zo (Store.set_same _ _ _) rfl) (by simp;omega) fun v' s' hs' ho'' => ?_
   rw [ek]
   refine NextQ.to (k+1,v',s') rfl (Store.sub_refl _) (by simp only;omega) ⟨by simp only;omega,hs',?_⟩
   simp only [List.take_add_one,List.getElem?_eq_getElem c1,Option.toList_some]
   exact ho''
  ·refine AllocQ.i0 fun i hi => ?_
   simp only [↓vcPre,↓z0,↓reduceIte,vcPost,vcStd,Nat.reduceEqDiff,reduceCtorEq,Nat.reduceAdd,Nat.reduceLeDiff,Int.reduceLT,Int.reduceLE,↓u_setN]
   refine ⟨⟨by simp [Seg.c],?_⟩,?_⟩
   ·simp only [Seg.c,↓vcPre,↓z0,↓reduceIte,vcPost,vcStd,Nat.reduceEqDiff,reduceCtorEq,Nat.reduceAdd,Nat.reduceLeDiff,Int.reduceLT,Int.reduceLE,↓u_setN]
    refine xo (zo (Store.set_same _ _ _) rfl) vp hroom fun j hj => ?_
    simp only [↓vcPre,↓z0,↓reduceIte,vcPost,vcStd,Nat.reduceEqDiff,reduceCtorEq,Nat.reduceAdd,Nat.reduceLeDiff,Int.reduceLT,Int.reduceLE,↓u_setN]
    have hji:j≠i:=fun e=>by subst e;rw [Store.set_same] at hj;cases hj
    have hj0:s j=none:=by rw [Store.set_ne _ _ hji] at hj;exact hj
    have hsub:Store.sub s (((s.set i (Obj.arr 1 [])).del i).set j (Obj.arr 1 (List.map cU p[k].ls))):=fun y o hy=>by
     have h1:y≠i:=fun e=>by subst e;rw [hi] at hy;cases hy
     have h2:y≠j:=fun e=>by subst e;rw [hj0] at hy;cases hy
     rw [Store.set_ne _ _ h2,Store.del_ne _ h1,Store.set_ne _ _ h1];exact hy
    have hjs:(((s.set i (Obj.arr 1 [])).del i).set j (Obj.arr 1 (List.map cU p[k].ls))) j=some (.arr 1 (p[k].ls.map cU)):=Store.set_same _ _ _
    refine AllocQ.i0 fun b hb => ?_
    simp only [Nat.zero_add,↓vcPre,↓z0,↓reduceIte,vcPost,vcStd,Nat.reduceEqDiff,reduceCtorEq,Nat.reduceAdd,Nat.reduceLeDiff,Int.reduceLT,Int.reduceLE,↓u_setN]
    refine OwnP.app (τ:=σ) (s0:=s) (x:=p[k]) (j:=j) hs (Store.sub_trans hsub (Store.sub_set _ b _ hb)) ho' (Store.sub_set _ b _ hb _ _ hjs) hj0 (zo (Store.set_same _ _ _) rfl) (by simp;omega) fun v' s' hs' ho'' => ?_
    rw [ek]
    refine NextQ.to (k+1,v',s') rfl (Store.sub_refl _) (by simp only;omega) ⟨by simp only;omega,hs',?_⟩
    simp only [List.take_add_one,List.getElem?_eq_getElem c1,Option.toList_some]
    exact ho''
   ·refine xo (zo (Store.set_same _ _ _) rfl) vp hroom fun j hj => ?_
    refine ⟨by simp [Seg.c],?_⟩
    simp only [Seg.c,↓vcPre,↓z0,↓reduceIte,vcPost,vcStd,Nat.reduceEqDiff,reduceCtorEq,Nat.reduceAdd,Nat.reduceLeDiff,Int.reduceLT,Int.reduceLE,↓u_setN]
    have hji:j≠i:=fun e=>by subst e;rw [Store.set_same] at hj;cases hj
    have hj0:s j=none:=by rw [Store.set_ne _ _ hji] at hj;exact hj
    have hsub:Store.sub s (((s.set i (Obj.arr 1 [])).del i).set j (Obj.arr 1 (List.map cU p[k].ls))):=fun y o hy=>by
     have h1:y≠i:=fun e=>by subst e;rw [hi] at hy;cases hy
     have h2:y≠j:=fun e=>by subst e;rw [hj0] at hy;cases hy
     rw [Store.set_ne _ _ h2,Store.del_ne _ h1,Store.set_ne _ _ h1];exact hy
    have hjs:(((s.set i (Obj.arr 1 [])).del i).set j (Obj.arr 1 (List.map cU p[k].ls))) j=some (.arr 1 (p[k].ls.map cU)):=Store.set_same _ _ _
    refine AllocQ.i0 fun b hb => ?_
    simp only [Nat.zero_add,↓vcPre,↓z0,↓reduceIte,vcPost,vcStd,Nat.reduceEqDiff,reduceCtorEq,Nat.reduceAdd,Nat.reduceLeDiff,Int.reduceLT,Int.reduceLE,↓u_setN]
    refine OwnP.app (τ:=σ) (s0:=s) (x:=p[k]) (j:=j) hs (Store.sub_trans hsub (Store.sub_set _ b _ hb)) ho' (Store.sub_set _ b _ hb _ _ hjs) hj0 (zo (Store.set_same _ _ _) rfl) (by simp;omega) fun v' s' hs' ho'' => ?_
    rw [ek]
    refine NextQ.to (k+1,v',s') rfl (Store.sub_refl _) (by simp only;omega) ⟨by simp only;omega,hs',?_⟩
    simp only [List.take_add_one,List.getElem?_eq_getElem c1,Option.toList_some]
    exact ho''
 ·have hkl:p.take k=p:=List.take_of_length_le (by omega)
  rw [hkl] at ho'
  exact EndQ.ownP rfl ho' hs ⟨rfl,rfl⟩
end Go.Am
namespace Go.Am.Tsf
open Go.Proofs Go.Am.B
def t72_34:BC := .seq (z [m 34 0] [0,1,5,34] (z [m 35 5] [0,1,5,34,35] (z [p 36 (.slice 1 false true) [.t 34,.t 35]] [0,1,5,36] (z [m 38 1] [0,5,36,38] (z [m 41 0] [5,36,38,41] (z [m 42 5] [36,38,41,42] (z [p 43 (.slice 1 true false) [.t 41,.t 42]] [36,38,43] (.both (z [⟨some 33,none,.alloc (.mksl 1 0),[]⟩] [33,36,38,43] (.both (z [⟨some 37,none,.loud (.app 1 4),[.t 33,.t 36]⟩] [37,38,43] (z [⟨some 39,none,.alloc (.mksl 1 1),[.t 38]⟩] [37,39,43] (z [⟨some 40,none,.loud (.app 1 4),[.t 37,.t 39]⟩] [40,43] (z [⟨some 44,none,.loud (.app 1 4),[.t 40,.t 43]⟩] [44] (z [m 4 44] [4] (.ops [] [4])))))) (.both (z [⟨some 39,none,.alloc (.mksl 1 1),[.t 38]⟩] [33,36,39,43] (z [⟨some 37,none,.loud (.app 1 4),[.t 33,.t 36]⟩] [37,39,43] (z [⟨some 40,none,.loud (.app 1 4),[.t 37,.t 39]⟩] [40,43] (z [⟨some 44,none,.loud (.app 1 4),[.t 40,.t 43]⟩] [44] (z [m 4 44] [4] (.ops [] [4])))))) (.top)))) (.both (z [⟨some 39,none,.alloc (.mksl 1 1),[.t 38]⟩] [36,39,43] (z [⟨some 33,none,.alloc (.mksl 1 0),[]⟩] [33,36,39,43] (z [⟨some 37,none,.loud (.app 1 4),[.t 33,.t 36]⟩] [37,39,43] (z [⟨some 40,none,.loud (.app 1 4),[.t 37,.t 39]⟩] [40,43] (z [⟨some 44,none,.loud (.app 1 4),[.t 40,.t 43]⟩] [44] (z [m 4 44] [4] (.ops [] [4]))))))) (.top)))))))))) .ret
def b72:BC:=z [k 4 .nils] [0,1] (z [j 5 0] [0,1,5] (.seq (.block 0 (.loop [0,1,5] (.seq (z [m 6 5,m 7 0,u 8 .len 7,b 9 .lss 6 8,m 10 9,⟨some 11,some (10,true),.pure (.mov),[.t 0]⟩,⟨some 12,some (10,true),.pure (.mov),[.t 5]⟩,⟨some 13,some (10,true),.pure (.idx 1),[.t 11,.t 12]⟩,⟨some 14,some (10,true),.load (.ld 1 false),[.t 13]⟩,⟨some 15,some (10,true),.pure (.mov),[.t 1]⟩,⟨some 16,some (10,true),.pure (.bin .lss),[.t 14,.t 15]⟩,⟨some 17,none,.pick,[.t 10,.t 16,.c (.bool false)]⟩] [0,1,5,17] (.cond (.t 17) .skip (.exit 0))) (.block 1 (.ops [m 18 5,c 19 .add 18 1,m 5 19] [0,1,5]))))) (.seq (z [m 20 5,m 21 0,u 22 .len 21,b 23 .lss 20 22,m 24 23,⟨some 25,some (24,true),.pure (.mov),[.t 0]⟩,⟨some 26,some (24,true),.pure (.mov),[.t 5]⟩,⟨some 27,some (24,true),.pure (.idx 1),[.t 25,.t 26]⟩,⟨some 28,some (24,true),.load (.ld 1 false),[.t 27]⟩,⟨some 29,some (24,true),.pure (.mov),[.t 1]⟩,⟨some 30,some (24,true),.pure (.bin .eql),[.t 28,.t 29]⟩,⟨some 31,none,.pick,[.t 24,.t 30,.c (.bool false)]⟩] [0,1,5,31] (.cond (.t 31) (z [m 32 0,m 4 32] [4] .ret) .skip)) t72_34)))
def F72:Fn Tryz.prog 72:=Fn.mkX false b72 [.t 4] 45 Tryz.f72 _ Tryz.func72 (by decide) rfl Tryz.ntmps72 (by kernel_rfl) (by kernel_rfl)
end Go.Am.Tsf
namespace Go.Am
open Go.Proofs Go.Sort
def putL:List Int→Int→List Int
 | [],n=>[n]
 | x::r,n=>if x<n then x::putL r n else if x=n then x::r else n::x::r
theorem zb5 {L:List Int} {n:Int} {k:Nat} (hk:k≤L.length) (h:∀ i (h:i<L.length),i<k→L[i]<n):putL L n=L.take k++putL (L.drop k) n:=by
 induction L generalizing k with
 | nil=>simp at hk;subst hk;rfl
 | cons x r ih =>
   cases k with
   | zero=>simp
   | succ k =>
     have h0:=h 0 (by simp) (by omega)
     simp only [List.getElem_cons_zero] at h0
     simp only [putL,if_pos h0,List.take_succ_cons,List.drop_succ_cons,List.cons_append]
     rw [ih (by simpa using hk) (fun i hi hik=>by
      have:=h (i+1) (by simpa using hi) (by omega)
      simpa using this)]
theorem putL_mem {L:List Int} {n x:Int}:x ∈ putL L n↔x=n∨x ∈ L:=by
 induction L with
 | nil=>simp [putL]
 | cons y r ih =>
   simp only [putL]
   split
   ·simp [ih];grind
   ·split
    ·rename_i h;subst h;simp
    ·simp
theorem z9a {L:List Int} {n:Int} (h:Inc L):Inc (putL L n):=by
 induction L with
 | nil=>simp [putL,Inc]
 | cons y r ih =>
   simp only [putL]
   unfold Inc at h ih ⊢
   rw [List.pairwise_cons] at h
   split
   ·rename_i h1
    rw [List.pairwise_cons]
    refine ⟨fun z hz => ?_,ih h.2⟩
    rcases putL_mem.1 hz with rfl | hz
    ·exact h1
    ·exact h.1 z hz
   ·split
    ·rw [List.pairwise_cons];exact h
    ·rw [List.pairwise_cons,List.pairwise_cons]
     refine ⟨fun z hz => ?_,h⟩
     rcases List.mem_cons.1 hz with rfl | hz
     ·omega
     ·have:=h.1 z hz;omega
theorem z49 (l:List Int):l.foldl putL []=canonC l:=by
 have key:∀ (l:List Int) (b:List Int),Inc b→Inc (l.foldl putL b)∧∀ x,x ∈ l.foldl putL b↔x ∈ b∨x ∈ l:=by
  intro l
  induction l with
  | nil=>intro b hb;exact ⟨hb,by simp⟩
  | cons y r ih =>
    intro b hb
    obtain ⟨h1,h2⟩:=ih (putL b y) (z9a hb)
    refine ⟨h1,fun x => ?_⟩
    show x ∈ r.foldl putL (putL b y)↔_
    rw [h2,putL_mem];simp;grind
 obtain ⟨h1,h2⟩:=key l [] (by simp [Inc])
 exact z57 h1 (up l) fun x=>by rw [h2,canonC_mem];simp
theorem z9b (L:List Int) (n:Int):(putL L n).length≤L.length+1:=by
 induction L with
 | nil=>simp [putL]
 | cons y r ih =>
   simp only [putL]
   split
   ·simp;omega
   ·split <;> simp
end Go.Am
namespace Go.Am
open Go.Proofs Go.Sort
theorem Own.appN {esz bytes g:Nat} {τ s:Store} {L ys:List (List AV)} {wv:AV} {K:AV→Store→Prop} (hsub:Store.sub τ s) (hg:τ g=none) (hs:s g=some (.arr esz L)) (hw:slc s esz wv=some ys) (hsz:(L.length+ys.length)*bytes≤140737488355328)
 (h:∀ j s',Store.sub τ s'→τ j=none→s' j=some (.arr esz (L++ys))→K (.os j esz 0 (L.length+ys.length)) s'):appwp esz bytes (.os g esz 0 L.length) wv s K:=by
 refine xo (zo hs rfl) hw hsz fun j hj => ?_
 have hτ:τ j=none:=zi hsub hj
 refine h _ _ (fun x q hx => ?_) hτ (Store.set_same _ _ _)
 have hxj:x≠j:=fun e=>by subst e;rw [hτ] at hx;cases hx
 have hxg:x≠g:=fun e=>by subst e;rw [hg] at hx;cases hx
 rw [Store.set_ne _ _ hxj,Store.del_ne _ hxg];exact hsub x q hx
theorem z1w {esz id off n:Nat} {es:List (List AV)} {σ:Store} (h:σ id=some (.arr esz es)) (hn:off+n≤es.length):slc σ esz (.os id esz off n)=some ((es.drop off).take n):=by
 simp [slc,h,hn]
theorem z3u (L:List Int) (n:Int) (k:Nat) (hk:k≤L.length) (hL:L.length≤1000000) {g j b:Nat} {s t:Store} (hg:s g=some (.arr 1 (L.map cU))) (hsub:Store.sub s t) (hj:s j=none) (hb:s b=none) (hjb:b≠j)
 (htj:t j=some (.arr 1 ((L.take k).map cU))) (htb:t b=some (.arr 1 [cU n])) {K:AV→Store→Prop}
 (h:∀ j s',Store.sub s s'→s j=none→s' j=some (.arr 1 ((L.take k++n::L.drop k).map cU))→K (.os j 1 0 (L.length+1)) s') :
 appwp 1 4 (.os j 1 0 k) (.os b 1 0 1) t fun v s'=>appwp 1 4 v (.os g 1 k (L.length - k)) s' K:=by
 have e1:((L.take k).map cU).length=k:=by simp;omega
 have a1:=Own.appN (τ:=s) (g:=j) (bytes:=4) (L:=(L.take k).map cU) (K:=fun v s'=>appwp 1 4 v (.os g 1 k (L.length - k)) s' K) hsub hj htj (zo htb rfl) (by rw [e1];simp;omega) (fun j' s' q1 q2 q3=>by
  have e2:((L.take k).map cU++[cU n]).length=k+1:=by simp;omega
  have hs2:slc s' 1 (.os g 1 k (L.length - k))=some ((L.drop k).map cU):=by
   rw [z1w (q1 _ _ hg) (by simp;omega)]
   rw [List.take_of_length_le (by simp),List.map_drop]
  have a2:=Own.appN (τ:=s) (g:=j') (bytes:=4) (L:=(L.take k).map cU++[cU n]) (K:=K) q1 q2 q3 hs2 (by rw [e2];simp;omega) (fun j2 s2 p1 p2 p3=>by
   have e3:((L.take k).map cU++[cU n]).length+((L.drop k).map cU).length=L.length+1:=by simp;omega
   rw [e3]
   refine h j2 s2 p1 p2 ?_
   rw [p3];simp)
  rw [e2] at a2
  rw [e1];exact a2)
 rw [e1] at a1
 exact a1
theorem z5d (L:List Int) (n:Int) (k:Nat) (hk:k≤L.length) (hL:L.length≤1000000) {g i b:Nat} {s t:Store} (hg:s g=some (.arr 1 (L.map cU))) (hsub:Store.sub s t) (hi:s i=none) (hb:s b=none) (hib:b≠i)
 (hti:t i=some (.arr 1 [])) (htb:t b=some (.arr 1 [cU n])) {K:AV→Store→Prop}
 (h:∀ j s',Store.sub s s'→s j=none→s' j=some (.arr 1 ((L.take k++n::L.drop k).map cU))→K (.os j 1 0 (L.length+1)) s') :
 appwp 1 4 (.os i 1 0 0) (.os g 1 0 k) t fun v s'=>appwp 1 4 v (.os b 1 0 1) s' fun v s'=>appwp 1 4 v (.os g 1 k (L.length - k)) s' K:=by
 have hsb:Store.sub (s.set b (.arr 1 [cU n])) t:=fun y o hy=>by
  by_cases hyb:y=b
  ·subst hyb;rw [Store.set_same] at hy;cases hy;exact htb
  ·rw [Store.set_ne _ _ hyb] at hy;exact hsub _ _ hy
 have e1:((L.take k).map cU).length=k:=by simp;omega
 have hs2:slc t 1 (.os g 1 0 k)=some ((L.take k).map cU):=by
  rw [z1w (hsub _ _ hg) (by simp;omega)]
  rw [List.drop_zero,List.map_take]
 refine Own.appN (τ:=s.set b (.arr 1 [cU n])) (g:=i) (L:=[]) hsb (by rw [Store.set_ne _ _ (fun e=>hib e.symm)];exact hi) hti hs2 (by rw [e1];simp;omega) fun j s' q1 q2 q3 => ?_
 have hjb:j≠b:=fun e=>by subst e;rw [Store.set_same] at q2;cases q2
 rw [Store.set_ne _ _ hjb] at q2
 have:=z3u L n k hk hL hg (Store.sub_trans (Store.sub_set _ b _ hb) q1) q2 hb (fun e=>hjb e.symm) (by simpa using q3) (q1 _ _ (Store.set_same _ _ _)) h
 simp only [List.length_nil,Nat.zero_add,e1]
 exact this
theorem z9l (E:Env) (L:List Int) (n:Int) (k:Nat) (hk:k≤L.length) (hL:L.length≤1000000) {g:Nat} {s:Store} (hg:s g=some (.arr 1 (L.map cU))) {nn rr:Env→Store→Prop} {x:Nat→Env→Store→Prop}
 (hr:∀ j s',Store.sub s s'→s j=none→s' j=some (.arr 1 ((L.take k++n::L.drop k).map cU))→rr [(4,.os j 1 0 (L.length+1))] s') :
 bwp Tryz.prog Tsf.t72_34 ((0,.os g 1 0 L.length)::(1,.int .u32 n)::(5,.int .i64 (k:Int))::E) s nn rr x:=by
 simp only [Tsf.t72_34]
 simp only [hg,↓vcPre,↓z0,↓reduceIte,vcPost,vcStd,Nat.reduceEqDiff,reduceCtorEq,Nat.reduceAdd,Nat.reduceLeDiff,Int.reduceLT,Int.reduceLE,↓u_setN]
 refine ⟨⟨by simp only [Option.getD_some];omega,by simp only [Option.getD_some];omega⟩,⟨by simp only [Option.getD_none];omega,by simp only [Option.getD_none];omega⟩,?_,?_⟩
 ·refine AllocQ.i0 fun i hi => ?_
  simp only [hg,Option.getD_some,Option.getD_none,Int.toNat_natCast,Int.toNat_zero,Nat.sub_zero,Nat.zero_add,↓vcPre,↓z0,↓reduceIte,vcPost,vcStd,Nat.reduceEqDiff,reduceCtorEq,Nat.reduceAdd,Nat.reduceLeDiff,Int.reduceLT,Int.reduceLE,↓u_setN]
  have e1:((L.take k).map cU).length=k:=by simp;omega
  refine ⟨?_,?_⟩
  ·refine Own.appN (τ:=s) (g:=i) (L:=[]) (ys:=(L.take k).map cU) (Store.sub_set _ _ _ hi) hi (Store.set_same _ _ _) ?_ (by rw [e1];simp;omega) fun j s1 q1 q2 q3 => ?_
   ·rw [z1w (Store.sub_set _ _ _ hi _ _ hg) (by simp;omega),List.drop_zero,List.map_take]
   refine AllocQ.i0 fun b hb => ?_
   have hjb:b≠j:=fun e=>by subst e;rw [q3] at hb;cases hb
   simp only [List.length_nil,Nat.zero_add,e1,List.nil_append] at q3 ⊢
   simp only [hg,↓vcPre,↓z0,↓reduceIte,vcPost,vcStd,Nat.reduceEqDiff,reduceCtorEq,Nat.reduceAdd,Nat.reduceLeDiff,Int.reduceLT,Int.reduceLE,↓u_setN]
   refine z3u L n k hk hL hg (Store.sub_trans q1 (Store.sub_set _ b _ hb)) q2 (zi q1 hb) hjb (Store.sub_set _ b _ hb _ _ q3) (Store.set_same _ _ _) fun j2 s2 p1 p2 p3 => ?_
   exact hr j2 s2 p1 p2 p3
  ·refine AllocQ.i0 fun b hb => ?_
   simp only [hg,Option.getD_some,Option.getD_none,Int.toNat_natCast,Int.toNat_zero,Nat.sub_zero,Nat.zero_add,↓vcPre,↓z0,↓reduceIte,vcPost,vcStd,Nat.reduceEqDiff,reduceCtorEq,Nat.reduceAdd,Nat.reduceLeDiff,Int.reduceLT,Int.reduceLE,↓u_setN]
   have hbi:b≠i:=fun e=>by subst e;rw [Store.set_same] at hb;cases hb
   rw [Store.set_ne _ _ hbi] at hb
   refine z5d L n k hk hL hg (zk hi hb hbi) hi hb hbi (by rw [Store.set_ne _ _ (fun e=>hbi e.symm),Store.set_same]) (Store.set_same _ _ _) fun j2 s2 p1 p2 p3=>hr j2 s2 p1 p2 p3
 ·refine AllocQ.i0 fun b hb => ?_
  simp only [hg,↓vcPre,↓z0,↓reduceIte,vcPost,vcStd,Nat.reduceEqDiff,reduceCtorEq,Nat.reduceAdd,Nat.reduceLeDiff,Int.reduceLT,Int.reduceLE,↓u_setN]
  refine AllocQ.i0 fun i hi => ?_
  simp only [hg,Option.getD_some,Option.getD_none,Int.toNat_natCast,Int.toNat_zero,Nat.sub_zero,Nat.zero_add,↓vcPre,↓z0,↓reduceIte,vcPost,vcStd,Nat.reduceEqDiff,reduceCtorEq,Nat.reduceAdd,Nat.reduceLeDiff,Int.reduceLT,Int.reduceLE,↓u_setN]
  have hib:i≠b:=fun e=>by subst e;rw [Store.set_same] at hi;cases hi
  rw [Store.set_ne _ _ hib] at hi
  refine z5d L n k hk hL hg (zk hb hi hib) hi hb (fun e=>hib e.symm) (Store.set_same _ _ _) (by rw [Store.set_ne _ _ (fun e=>hib e.symm),Store.set_same];rfl) fun j2 s2 p1 p2 p3=>hr j2 s2 p1 p2 p3
end Go.Am
namespace Go.Am
open Go.Proofs Go.Sort
theorem z32 {A B:List (List AV)} {y:List AV} {w2:AV} {j b:Nat} {s t:Store} (hsub:Store.sub s t) (hj:s j=none)
 (htj:t j=some (.arr 1 A)) (htb:t b=some (.arr 1 [y])) (h2:∀ t,Store.sub s t→slc t 1 w2=some B) (hsz:(A.length+1+B.length)*4≤140737488355328) {K:AV→Store→Prop}
 (h:∀ j s',Store.sub s s'→s j=none→s' j=some (.arr 1 (A++y::B))→K (.os j 1 0 (A.length+1+B.length)) s') :
 appwp 1 4 (.os j 1 0 A.length) (.os b 1 0 1) t fun v s'=>appwp 1 4 v w2 s' K:=by
 refine Own.appN (τ:=s) (g:=j) (L:=A) hsub hj htj (zo htb rfl) (by simp;omega) fun j' s' q1 q2 q3 => ?_
 have e2:(A++[y]).length=A.length+1:=by simp
 have a2:=Own.appN (τ:=s) (g:=j') (bytes:=4) (L:=A++[y]) (K:=K) q1 q2 q3 (h2 _ q1) (by rw [e2];exact hsz) (fun j2 s2 p1 p2 p3=>by
  rw [e2]
  refine h j2 s2 p1 p2 ?_
  rw [p3];simp)
 rw [e2] at a2
 exact a2
theorem z4o {A B:List (List AV)} {y:List AV} {w1 w2:AV} {i b:Nat} {s t:Store} (hsub:Store.sub s t) (hi:s i=none) (hb:s b=none) (hib:b≠i)
 (hti:t i=some (.arr 1 [])) (htb:t b=some (.arr 1 [y])) (h1:∀ t,Store.sub s t→slc t 1 w1=some A) (h2:∀ t,Store.sub s t→slc t 1 w2=some B) (hsz:(A.length+1+B.length)*4≤140737488355328) {K:AV→Store→Prop}
 (h:∀ j s',Store.sub s s'→s j=none→s' j=some (.arr 1 (A++y::B))→K (.os j 1 0 (A.length+1+B.length)) s') :
 appwp 1 4 (.os i 1 0 0) w1 t fun v s'=>appwp 1 4 v (.os b 1 0 1) s' fun v s'=>appwp 1 4 v w2 s' K:=by
 have hsb:Store.sub (s.set b (.arr 1 [y])) t:=fun z o hy=>by
  by_cases hyb:z=b
  ·subst hyb;rw [Store.set_same] at hy;cases hy;exact htb
  ·rw [Store.set_ne _ _ hyb] at hy;exact hsub _ _ hy
 refine Own.appN (τ:=s.set b (.arr 1 [y])) (g:=i) (L:=[]) hsb (by rw [Store.set_ne _ _ (fun e=>hib e.symm)];exact hi) hti (h1 _ hsub) (by simp;omega) fun j s' q1 q2 q3 => ?_
 have hjb:j≠b:=fun e=>by subst e;rw [Store.set_same] at q2;cases q2
 rw [Store.set_ne _ _ hjb] at q2
 have:=z32 (A:=A) (B:=B) (Store.sub_trans (Store.sub_set _ b _ hb) q1) q2 (by simpa using q3) (q1 _ _ (Store.set_same _ _ _)) h2 hsz h
 simp only [List.length_nil,Nat.zero_add]
 exact this
theorem z7t (E:Env) (n:Int) {s:Store} {nn rr:Env→Store→Prop} {x:Nat→Env→Store→Prop}
 (hr:∀ j s',Store.sub s s'→s j=none→s' j=some (.arr 1 [cU n])→rr [(4,.os j 1 0 1)] s') :
 bwp Tryz.prog Tsf.t72_34 ((0,.nils)::(1,.int .u32 n)::(5,.int .i64 0)::E) s nn rr x:=by
 simp only [Tsf.t72_34]
 have hn:∀ t,Store.sub s t→slc t 1 .nils=some []:=fun _ _=>rfl
 simp only [↓vcPre,↓z0,↓reduceIte,vcPost,vcStd,Nat.reduceEqDiff,reduceCtorEq,Nat.reduceAdd,Nat.reduceLeDiff,Int.reduceLT,Int.reduceLE,↓u_setN]
 refine ⟨⟨by simp,by simp⟩,⟨by simp,by simp⟩,?_,?_⟩
 ·refine AllocQ.i0 fun i hi => ?_
  simp only [↓vcPre,↓z0,↓reduceIte,vcPost,vcStd,Nat.reduceEqDiff,reduceCtorEq,Nat.reduceAdd,Nat.reduceLeDiff,Int.reduceLT,Int.reduceLE,↓u_setN]
  refine ⟨?_,?_⟩
  ·refine Own.appN (τ:=s) (g:=i) (L:=[]) (ys:=[]) (Store.sub_set _ _ _ hi) hi (Store.set_same _ _ _) rfl (by simp) fun j s1 q1 q2 q3 => ?_
   refine AllocQ.i0 fun b hb => ?_
   have hjb:b≠j:=fun e=>by subst e;rw [q3] at hb;cases hb
   simp only [List.length_nil,Nat.zero_add,List.nil_append] at q3 ⊢
   simp only [↓vcPre,↓z0,↓reduceIte,vcPost,vcStd,Nat.reduceEqDiff,reduceCtorEq,Nat.reduceAdd,Nat.reduceLeDiff,Int.reduceLT,Int.reduceLE,↓u_setN]
   exact z32 (A:=[]) (B:=[]) (Store.sub_trans q1 (Store.sub_set _ b _ hb)) q2 (Store.sub_set _ b _ hb _ _ q3) (Store.set_same _ _ _) hn (by simp) fun j2 s2 p1 p2 p3=>hr j2 s2 p1 p2 p3
  ·refine AllocQ.i0 fun b hb => ?_
   simp only [↓vcPre,↓z0,↓reduceIte,vcPost,vcStd,Nat.reduceEqDiff,reduceCtorEq,Nat.reduceAdd,Nat.reduceLeDiff,Int.reduceLT,Int.reduceLE,↓u_setN]
   have hbi:b≠i:=fun e=>by subst e;rw [Store.set_same] at hb;cases hb
   rw [Store.set_ne _ _ hbi] at hb
   exact z4o (A:=[]) (B:=[]) (zk hi hb hbi) hi hb hbi (by rw [Store.set_ne _ _ (fun e=>hbi e.symm),Store.set_same]) (Store.set_same _ _ _) hn hn (by simp) fun j2 s2 p1 p2 p3=>hr j2 s2 p1 p2 p3
 ·refine AllocQ.i0 fun b hb => ?_
  simp only [↓vcPre,↓z0,↓reduceIte,vcPost,vcStd,Nat.reduceEqDiff,reduceCtorEq,Nat.reduceAdd,Nat.reduceLeDiff,Int.reduceLT,Int.reduceLE,↓u_setN]
  refine AllocQ.i0 fun i hi => ?_
  simp only [↓vcPre,↓z0,↓reduceIte,vcPost,vcStd,Nat.reduceEqDiff,reduceCtorEq,Nat.reduceAdd,Nat.reduceLeDiff,Int.reduceLT,Int.reduceLE,↓u_setN]
  have hib:i≠b:=fun e=>by subst e;rw [Store.set_same] at hi;cases hi
  rw [Store.set_ne _ _ hib] at hi
  exact z4o (A:=[]) (B:=[]) (zk hb hi hib) hi hb (fun e=>hib e.symm) (Store.set_same _ _ _) (by rw [Store.set_ne _ _ (fun e=>hib e.symm),Store.set_same];rfl) hn hn (by simp) fun j2 s2 p1 p2 p3=>hr j2 s2 p1 p2 p3
theorem s72 {τ s:Store} (hτ:Store.sub τ s) (L:List Int) (n:Int) (hL:L.length≤1000000) {v:AV} (ho:Own 1 τ (L.map cU) v s):ACalls Tryz.prog 72 [v,.int .u32 n] s (fun r s'=>Store.sub τ s'∧Own 1 τ ((putL L n).map cU) r s'):=by
 refine zd Tsf.F72 (by simp [Tsf.F72,Fn.mkX]) ?_
 simp only [Tsf.F72,Fn.mkX,Tsf.b72]
 rcases ho with ⟨h0,rfl⟩ | ⟨g,rfl,hgg,hg⟩
 ·have hL0:L=[]:=by simpa using h0
  subst hL0
  simp only [↓vcPre,↓z0,↓reduceIte,vcPost,vcStd,Nat.reduceEqDiff,reduceCtorEq,Nat.reduceAdd,Nat.reduceLeDiff,Int.reduceLT,Int.reduceLE,↓u_setN]
  refine LoopQ.inv (S:=Unit) (fun _=>[(0,.nils),(1,.int .u32 n),(5,.int .i64 0)]) (fun _=>s) (fun _=>True) (fun _=>0) () rfl (Store.sub_refl _) trivial ?_
  intro _ _
  simp only [↓vcPre,↓z0,↓reduceIte,vcPost,vcStd,Nat.reduceEqDiff,reduceCtorEq,Nat.reduceAdd,Nat.reduceLeDiff,Int.reduceLT,Int.reduceLE,↓u_setN]
  refine z7t _ n fun j s' h1 h2 h3 => ?_
  refine EndQ.to s' (.os j 1 0 1) rfl (Store.sub_refl _) ⟨Store.sub_trans hτ h1,.inr ⟨j,rfl,zi hτ h2,h3⟩⟩
 ·simp only [List.length_map]
  simp only [hg,↓vcPre,↓z0,↓reduceIte,vcPost,vcStd,Nat.reduceEqDiff,reduceCtorEq,Nat.reduceAdd,Nat.reduceLeDiff,Int.reduceLT,Int.reduceLE,↓u_setN]
  refine LoopQ.inv (S:=Nat) (fun k=>[(0,.os g 1 0 L.length),(1,.int .u32 n),(5,.int .i64 (k:Int))]) (fun _=>s) (fun k=>k≤L.length∧∀ i (h:i<L.length),i<k→L[i]<n) (fun k=>L.length+1 - k) 0 rfl (Store.sub_refl _) ⟨by omega,fun i _ h=>by omega⟩ ?_
  rintro k ⟨hk,hlt⟩
  simp only [hg,Nat.zero_add,↓vcPre,↓z0,↓reduceIte,vcPost,vcStd,Nat.reduceEqDiff,reduceCtorEq,Nat.reduceAdd,Nat.reduceLeDiff,Int.reduceLT,Int.reduceLE,↓u_setN]
  have ek:IntKind.i64.wrap ((k:Int)+1)=((k+1:Nat):Int):=by rw [z7 (by unfold I64;omega)];omega
  have hput:=zb5 hk hlt
  have tail:(∀ h:k<L.length,n<L[k])→∀ E,bwp Tryz.prog Tsf.t72_34 ((0,.os g 1 0 L.length)::(1,.int .u32 n)::(5,.int .i64 (k:Int))::E) s (fun e τ' => @EndQ e τ' ⟨Tsf.F72.slots,fun r s'=>Store.sub τ s'∧Own 1 τ ((putL L n).map cU) r s'⟩) (fun e τ' => @EndQ e τ' ⟨Tsf.F72.slots,fun r s'=>Store.sub τ s'∧Own 1 τ ((putL L n).map cU) r s'⟩) fun _ _ _=>False:=fun hkn E=>by
   have hpl:putL L n=L.take k++n::L.drop k:=by
    rw [hput]
    by_cases c1:k<L.length
    ·have:=hkn c1
     rw [List.drop_eq_getElem_cons c1]
     simp only [putL]
     rw [if_neg (by omega),if_neg (by omega)]
    ·rw [List.drop_eq_nil_of_le (by omega)];rfl
   refine z9l E L n k hk hL hg fun j s' h1 h2 h3 => ?_
   refine EndQ.to s' (.os j 1 0 (L.length+1)) rfl (Store.sub_refl _) ⟨Store.sub_trans hτ h1,.inr ⟨j,?_,zi hτ h2,by rw [hpl];exact h3⟩⟩
   rw [hpl];simp;omega
  refine ⟨fun c1=>⟨c1,c1,by simp [cU],?_⟩,fun c1=>⟨fun c2=>absurd c2 c1,fun _=>tail (fun h=>absurd h c1) _⟩⟩
  simp only [cU,↓vcPre,↓z0,↓reduceIte,vcPost,vcStd,Nat.reduceEqDiff,reduceCtorEq,Nat.reduceAdd,Nat.reduceLeDiff,Int.reduceLT,Int.reduceLE,↓u_setN]
  refine ⟨fun g1 => ?_,fun g1=>⟨fun _=>⟨c1,c1,?_⟩,fun c2=>absurd c1 c2⟩⟩
  ·rw [ek]
   refine NextQ.to (k+1) rfl (Store.sub_refl _) (by omega) ⟨by omega,fun i hi hik => ?_⟩
   by_cases hik':i=k
   ·subst hik';exact g1
   ·exact hlt i hi (by omega)
  ·refine ⟨fun g2 => ?_,fun g2=>tail (fun _=>by omega) _⟩
   refine EndQ.to s (.os g 1 0 L.length) rfl (Store.sub_refl _) ⟨hτ,.inr ⟨g,?_,hgg,?_⟩⟩
   ·have hpl:putL L n=L:=by
     rw [hput,List.drop_eq_getElem_cons c1]
     simp only [putL]
     rw [if_neg (by omega),if_pos g2,←List.drop_eq_getElem_cons c1,List.take_append_drop]
    rw [hpl];simp
   ·have hpl:putL L n=L:=by
     rw [hput,List.drop_eq_getElem_cons c1]
     simp only [putL]
     rw [if_neg (by omega),if_pos g2,←List.drop_eq_getElem_cons c1,List.take_append_drop]
    rw [hpl];exact hg
end Go.Am
namespace Go.Am.Tsg
open Go.Proofs Go.Am.B
def t45_3:BC:=z [k 3 .nils] [1,2,3] (.seq (z [j 4 0] [1,2,3,4] (.block 0 (.loop [1,2,3,4] (.seq (z [m 17 4,f 18 8 1,l 19 1 18,u 20 .len 19,b 21 .lss 17 20] [1,2,3,4,21] (.cond (.t 21) .skip (.exit 0))) (.seq (.block 1 (.ops [m 24 3,f 25 8 1,l 26 1 25,m 27 4,x 28 1 26 27,l 29 1 28,g 30 72 [.t 24,.t 29],m 3 30] [1,2,3,4])) (.ops [m 22 4,c 23 .add 22 1,m 4 23] [1,2,3,4])))))) (z [m 31 3,f 32 8 1,s 1 32 31] [1,2] (z [⟨some 33,none,.load (.ld 9 true),[.t 1]⟩,s 9 2 33] [2] .ret)))
def b45:BC:=z [⟨some 1,none,.alloc (.box),[.t 0]⟩,⟨some 2,none,.alloc (.alloc [(.int .i64 0),.nils,(.int .u32 0),(.bool false),(.int .u32 0),(.bool false),(.int .u32 0),(.bool false),.nils]),[]⟩] [1,2] (z [f 5 1 1,l 6 1 5,g 7 71 [.t 6],f 8 1 1,s 1 8 7] [1,2] (.seq (z [f 9 3 1,l 10 1 9,u 11 .not 10] [1,2,11] (.cond (.t 11) (.ops [f 12 4 1,⟨none,none,.loud (.st 1),[.t 12,.c (.int .u32 0)]⟩] [1,2]) .skip)) (.seq (z [f 13 5 1,l 14 1 13,u 15 .not 14] [1,2,15] (.cond (.t 15) (.ops [f 16 6 1,⟨none,none,.loud (.st 1),[.t 16,.c (.int .u32 0)]⟩] [1,2]) .skip)) t45_3)))
def F45:Fn Tryz.prog 45:=Fn.mkX false b45 [.c 2 9 true] 34 Tryz.f45 _ Tryz.func45 (by decide) rfl Tryz.ntmps45 (by kernel_rfl) (by kernel_rfl)
end Go.Am.Tsg
namespace Go.Am
open Go.Proofs Go.Sort
theorem z4k (E:Env) (a:At) (ha:a.ok) {σ t:Store} {i j:Nat} {z:List AV} (hz:z.length=9) (hi:t i=some (.box a.c)) (hj:t j=some (.box z)) (hij:¬ i=j) (hi0:σ i=none) (hj0:σ j=none) (hs:Store.sub σ t) {nn rr:Env→Store→Prop} {x:Nat→Env→Store→Prop}
 (hr:∀ v s',Store.sub σ s'→Own 1 σ ((canonC a.cms).map cU) v s'→s' j=some (.box (a.cO v))→rr [(2,.ptr j 0)] s') :
 bwp Tryz.prog Tsg.t45_3 ((1,.ptr i 0)::(2,.ptr j 0)::E) t nn rr x:=by
 simp only [Tsg.t45_3]
 have hji:¬ j=i:=fun e=>hij e.symm
 have hcm:a.cms.length≤1000000:=ha.2.2
 simp only [↓vcPre,↓z0,↓reduceIte,vcPost,vcStd,Nat.reduceEqDiff,reduceCtorEq,Nat.reduceAdd,Nat.reduceLeDiff,Int.reduceLT,Int.reduceLE,↓u_setN]
 refine LoopQ.inv (S:=Nat×AV×Store) (fun q=>[(1,.ptr i 0),(2,.ptr j 0),(3,q.2.1),(4,.int .i64 (q.1:Int))]) (fun q=>q.2.2) (fun q=>q.1≤a.cms.length∧Store.sub t q.2.2∧Own 1 t (((a.cms.take q.1).foldl putL []).map cU) q.2.1 q.2.2) (fun q=>a.cms.length+1 - q.1) (0,.nils,t) rfl (Store.sub_refl _) ⟨by simp only;omega,Store.sub_refl _,.nil⟩ ?_
 rintro ⟨k,v,s⟩ ⟨hk,hts,ho⟩
 simp only at hk hts ho
 have hsi:=hts _ _ hi
 have hsj:=hts _ _ hj
 simp only [hsi,At.c,↓vcPre,↓z0,↓reduceIte,vcPost,vcStd,Nat.reduceEqDiff,reduceCtorEq,Nat.reduceAdd,Nat.reduceLeDiff,Int.reduceLT,Int.reduceLE,↓u_setN]
 refine ⟨fun c1 => ?_,fun c1 => ?_⟩
 ·have ek:IntKind.i64.wrap ((k:Int)+1)=((k+1:Nat):Int):=by rw [z7 (by unfold I64;omega)];omega
  refine ⟨c1,by simp [cU],?_⟩
  simp only [cU,↓vcPre,↓z0,↓reduceIte,vcPost,vcStd,Nat.reduceEqDiff,reduceCtorEq,Nat.reduceAdd,Nat.reduceLeDiff,Int.reduceLT,Int.reduceLE,↓u_setN]
  have hfl:∀ (l:List Int) (b:List Int),(l.foldl putL b).length≤b.length+l.length:=by
   intro l
   induction l with
   | nil=>intro b;simp
   | cons y r ih=>intro b;have h1:=ih (putL b y);have h2:=z9b b y;simp only [List.foldl_cons,List.length_cons];omega
  have hlen:=hfl (a.cms.take k) []
  simp only [List.length_take,List.length_nil] at hlen
  refine (s72 hts ((a.cms.take k).foldl putL []) a.cms[k] (by omega) ho).Q ?_
  rintro r s' ⟨h1,h2⟩
  simp only [↓vcPre,↓z0,↓reduceIte,vcPost,vcStd,Nat.reduceEqDiff,reduceCtorEq,Nat.reduceAdd,Nat.reduceLeDiff,Int.reduceLT,Int.reduceLE,↓u_setN]
  rw [ek]
  refine NextQ.to (k+1,r,s') rfl (Store.sub_refl _) (by simp only;omega) ⟨by simp only;omega,h1,?_⟩
  simp only
  rw [z15 putL [] c1]
  exact h2
 ·have hkl:a.cms.take k=a.cms:=List.take_of_length_le (by omega)
  rw [hkl,z49] at ho
  have hv:v.isTup=false∧v.cells=[v]:=by
   rcases ho with ⟨_,rfl⟩ | ⟨g,rfl,_,_⟩ <;> exact ⟨rfl,rfl⟩
  simp only [hv.1,hv.2,hsi,hsj,hij,hji,At.c,hz,↓vcPre,↓z0,↓reduceIte,vcPost,vcStd,Nat.reduceEqDiff,reduceCtorEq,Nat.reduceAdd,Nat.reduceLeDiff,Int.reduceLT,Int.reduceLE,↓u_setN]
  rw [zq _ _ (by simp [hz]),yr]
  refine hr v _ (z5 (z5 (Store.sub_trans hs hts) hi0) hj0) ?_ (Store.set_same _ _ _)
  rcases ho.weak hs with h | ⟨g,h1,h2,h3⟩
  ·exact .inl h
  ·refine .inr ⟨g,h1,h2,?_⟩
   have hgi:¬ g=i:=fun e=>by rw [e,hsi] at h3;cases h3
   have hgj:¬ g=j:=fun e=>by rw [e,hsj] at h3;cases h3
   rw [Store.set_ne _ _ hgj,Store.set_ne _ _ hgi];exact h3
theorem s45 (a:At) (ha:a.ok) {σ:Store} {Q:AV→Store→Prop} (hQ:∀ v s',Store.sub σ s'→Own 1 σ ((canonC a.cms).map cU) v s'→Weak (.agg ((canonA a).cO v)) s' Q):ACalls Tryz.prog 45 [.agg a.c] σ Q:=by
 refine zd Tsg.F45 (by simp [Tsg.F45,Fn.mkX]) ?_
 simp only [Tsg.F45,Fn.mkX,Tsg.b45]
 simp only [At.c,↓vcPre,↓z0,↓reduceIte,vcPost,vcStd,Nat.reduceEqDiff,reduceCtorEq,Nat.reduceAdd,Nat.reduceLeDiff,Int.reduceLT,Int.reduceLE,↓u_setN]
 refine AllocQ.i0 fun i hi => ?_
 simp only [At.c,↓vcPre,↓z0,↓reduceIte,vcPost,vcStd,Nat.reduceEqDiff,reduceCtorEq,Nat.reduceAdd,Nat.reduceLeDiff,Int.reduceLT,Int.reduceLE,↓u_setN]
 refine AllocQ.i1 fun j hj1 hj2 hj => ?_
 simp only [hj1,hj2,↓vcPre,↓z0,↓reduceIte,vcPost,vcStd,Nat.reduceEqDiff,reduceCtorEq,Nat.reduceAdd,Nat.reduceLeDiff,Int.reduceLT,Int.reduceLE,↓u_setN]
 refine (c71 _ ha.1 ha.2.1).Q ?_
 simp only [hj1,hj2,↓vcPre,↓z0,↓reduceIte,vcPost,vcStd,Nat.reduceEqDiff,reduceCtorEq,Nat.reduceAdd,Nat.reduceLeDiff,Int.reduceLT,Int.reduceLE,↓u_setN]
 have key:∀ (E:Env) (t:Store) (z:List AV) (x:Nat→Env→Store→Prop) (n:Env→Store→Prop) (m p:Int),z.length=9→t i=some (.box ({ a with med:=m,prf:=p }:At).c)→t j=some (.box z)→Store.sub σ t→(if a.hm then a.med else 0)=m→(if a.hp then a.prf else 0)=p →
  bwp Tryz.prog Tsg.t45_3 ((1,.ptr i 0)::(2,.ptr j 0)::E) t n (fun e s => @EndQ e s ⟨Tsg.F45.slots,Q⟩) x:=by
  intro E t z x n m p hz h1 h2 h3 rfl rfl
  refine z4k E { a with med:=(if a.hm then a.med else 0),prf:=(if a.hp then a.prf else 0) } ha hz h1 h2 hj2 hi hj h3 ?_
  intro v s' q1 q2 q3
  unfold EndQ
  refine ⟨_,?_,hQ v s' q1 q2⟩
  show Env.res [(2,AV.ptr j 0)] s' [RS.c 2 9 true]=_
  have e9:∀ x:At,(x.cO v).length=9:=fun _=>rfl
  have t9:∀ x:At,List.take 9 (x.cO v)=x.cO v:=fun _=>rfl
  simp only [q3,e9,t9,Nat.le_refl,↓vcPre,↓z0,↓reduceIte,vcPost,vcStd,Nat.reduceEqDiff,reduceCtorEq,Nat.reduceAdd,Nat.reduceLeDiff,Int.reduceLT,Int.reduceLE,↓u_setN]
  rfl
 cases hm:a.hm <;> cases hp:a.hp
 all_goals simp only [↓vcPre,↓z0,↓reduceIte,vcPost,vcStd,Nat.reduceEqDiff,reduceCtorEq,Nat.reduceAdd,Nat.reduceLeDiff,Int.reduceLT,Int.reduceLE,↓u_setN]
 all_goals
  refine key _ _ zCells _ _ (if a.hm then a.med else 0) (if a.hp then a.prf else 0) rfl ?_ ?_ ?_ rfl rfl
  ·rw [Store.set_same];simp [At.c,hm,hp]
  ·simp only [Store.set_ne _ _ hj1,Store.set_same];rfl
  ·first
    | exact z5 (z5 (z5 (zk hi hj hj1) hi) hi) hi
    | exact z5 (z5 (zk hi hj hj1) hi) hi
    | exact z5 (zk hi hj hj1) hi
theorem c45 (a:At) (ha:a.ok):Pur Tryz.prog 45 [.agg a.c] (.agg (canonA a).c):=fun σ =>
 s45 a ha fun v s' hs ho=>by
  rcases ho with ⟨h0,rfl⟩ | ⟨g,rfl,hg,hh⟩
  ·have h0':canonC a.cms=[]:=by simpa using h0
   refine Weak.agg (WeakL.nil 8 1 rfl (WeakL.forget hs (WeakL.pure ⟨?_,rfl,?_⟩)))
   ·intro c hc
    simp [At.cO] at hc
    rcases hc with rfl | rfl | rfl | rfl | rfl | rfl | rfl | rfl | rfl <;> rfl
   ·simp [At.cO,At.c,canonA,h0']
  ·refine Weak.agg (WeakL.freeze 8 rfl hh (by simp) (WeakL.forget (fun i o hi => ?_) (WeakL.pure ⟨?_,rfl,?_⟩)))
   ·rw [Store.del_ne _ (fun e=>by subst e;rw [hg] at hi;cases hi)];exact hs i o hi
   ·intro c hc
    simp [At.cO] at hc
    rcases hc with rfl | rfl | rfl | rfl | rfl | rfl | rfl | rfl | rfl <;> rfl
   ·have:List.take (canonC a.cms).length ((canonC a.cms).map cU)=(canonC a.cms).map cU:=List.take_of_length_le (by simp)
    simp [At.cO,At.c,canonA,this]
end Go.Am
namespace Go.Am
open Go.Proofs Go.Sort
theorem c43 (n:Int):Pur Tryz.prog 43 [.int .u32 n] (.bool (decide (goodN n))):=by
 refine zh Tst.F43 (by simp [Tst.F43,Fn.mkX]) fun σ => ?_
 simp only [Tst.F43,Fn.mkX,Tst.b43]
 have e:shrInt .u32 n 24=n / 16777216:=by
  simp [shrInt,IntKind.bits,z14]
 simp only [e,↓vcPre,↓z0,↓reduceIte,vcPost,vcStd,Nat.reduceEqDiff,reduceCtorEq,Nat.reduceAdd,Nat.reduceLeDiff,Int.reduceLT,Int.reduceLE,↓u_setN]
 (repeat' first
   | (refine ⟨fun _ => ?_,fun _ => ?_⟩)
   | (refine decide_eq_decide.2 ?_;unfold goodN;omega)
   | (symm;rw [decide_eq_false_iff_not];unfold goodN;omega)
   | (symm;rw [decide_eq_true_iff];unfold goodN;omega))
end Go.Am
namespace Go.Am
open Go.Proofs Go.Sort
def RZ (σ:Store) (v:AV) (B:List Int) (τ:Store) (id:Nat) (R:List Int) (lack:Bool) (s:Store):Prop:=∃ (at_:Nat),τ id=none∧Store.sub τ s∧Store.sub σ τ∧s id=some (.box [v,.int .i64 (at_:Int),.bool lack])∧Rd 1 σ (B.map cB) v∧at_≤B.length∧R=B.drop at_∧B.length≤1000000000∧U8s B
section
variable {σ τ s:Store} {v:AV} {B:List Int} {id:Nat} {R:List Int} {lack:Bool}
theorem RZ.base (h:RZ σ v B τ id R lack s):RZ σ v B (s.del id) id R lack s∧Store.sub τ (s.del id):=by
 obtain ⟨at_,h1,h2,h3,h4,h5⟩:=h
 exact ⟨⟨at_,by simp,ym _ _,Store.sub_trans h3 (sub_del h2 h1),h4,h5⟩,sub_del h2 h1⟩
theorem RZ.of {at_:Nat} (h:RF τ id v B at_ lack s) (h1:B.length≤1000000000) (h2:U8s B) (h3:Store.sub σ τ) (h4:Rd 1 σ (B.map cB) v):RZ σ v B τ id (B.drop at_) lack s:=⟨at_,h.1,h.2.1,h3,h.2.2.1,h4,h.2.2.2.2,rfl,h1,h2⟩
end
end Go.Am
namespace Go.Am.Tsz
open Go.Proofs Go.Am.B
def t33_41:BC := .ops [m 41 5,m 42 7,m 43 6,g 44 59 [.t 42,.t 43],⟨some 45,none,.alloc (.mksl 2 1),[.t 44]⟩,⟨some 46,none,.loud (.app 2 16),[.t 41,.t 45]⟩,m 5 46] [4,5]
def b33:BC:=z [k 2 .nils,k 3 (.bool false)] [0] (z [m 10 0,g 11 27 [.t 10],m 4 11] [4] (z [k 5 .nils] [4,5] (.seq (.block 0 (.loop [4,5] (.seq (z [m 12 4,g 13 30 [.t 12],c 14 .gtr 13 0] [4,5,14] (.cond (.t 14) .skip (.exit 0))) (.block 1 (z [m 15 4,g 16 58 [.t 15],m 6 16] [4,5,6] (z [k 7 (.int .u32 0)] [4,5,6,7] (.seq (z [m 17 6,c 18 .gtr 17 32] [4,5,6,7,18] (.cond (.t 18) (z [k 2 .nils,k 3 (.bool false)] [2,3] .ret) .skip)) (.seq (z [m 19 4,m 20 6,c 21 .add 20 8,c 22 .sub 21 1,c 23 .quo 22 8,g 24 28 [.t 19,.t 23],u 25 .len 24,j 26 0] [4,5,6,7,24,25,26] (.block 2 (.loop [4,5,6,7,24,25,26] (z [b 27 .lss 26 25] [4,5,6,7,24,25,26,27] (.seq (.cond (.t 27) .skip (.exit 2)) (.seq (.block 3 (z [m 28 26,x 29 1 24 26,l 30 1 29,m 8 28,m 9 30] [4,5,6,7,8,9,24,25,26] (.ops [m 31 7,m 32 9,u 33 (.conv .u32) 32,m 34 8,c 35 .add 34 1,p 36 (.bin .mul) [.c (.int .i64 8),.t 35],p 37 (.bin .sub) [.c (.int .i64 32),.t 36],b 38 .shl 33 37,b 39 .or 31 38,m 7 39] [4,5,6,7,24,25,26]))) (.ops [c 40 .add 26 1,m 26 40] [4,5,6,7,24,25,26]))))))) t33_41)))))))) (.seq (z [m 47 4,g 48 31 [.t 47],u 49 .not 48] [5,49] (.cond (.t 49) (z [k 2 .nils,k 3 (.bool false)] [2,3] .ret) .skip)) (z [m 50 5,m 2 50,k 3 (.bool true)] [2,3] .ret)))))
def F33:Fn Tryz.prog 33:=Fn.mkX false b33 [.t 2,.t 3] 51 Tryz.f33 _ Tryz.func33 (by decide) rfl Tryz.ntmps33 (by kernel_rfl) (by kernel_rfl)
end Go.Am.Tsz
namespace Go.Am
open Go.Proofs Go.Sort
def outN (x:Option (List (Int×Int))):AV:=match x with
 | some l => .tup [.sl 2 (l.map pxC),.bool true]
 | none => .tup [.sl 2 [],.bool false]
theorem wq {n:Int} (h0:0≤n) (h:n≤32):szN n≤4:=by unfold szN;omega
set_option maxHeartbeats 1000000 in
theorem s33 {σ:Store} {B:List Int} {v:AV} (hr:Rd 1 σ (B.map cB) v) (hB:B.length≤1000000) (hu:U8s B):ACalls Tryz.prog 33 [v] σ (fun r s=>s=σ∧r=outN (dN B)):=by
 refine zd Tsz.F33 (by simp [Tsz.F33,Fn.mkX]) ?_
 simp only [Tsz.F33,Fn.mkX,Tsz.b33]
 simp only [↓vcPre,↓z0,↓reduceIte,vcPost,vcStd,Nat.reduceEqDiff,reduceCtorEq,Nat.reduceAdd,Nat.reduceLeDiff,Int.reduceLT,Int.reduceLE,↓u_setN]
 refine (s27 hr (by omega)).Q ?_
 rintro r s ⟨id,rfl,h⟩
 simp only [↓vcPre,↓z0,↓reduceIte,vcPost,vcStd,Nat.reduceEqDiff,reduceCtorEq,Nat.reduceAdd,Nat.reduceLeDiff,Int.reduceLT,Int.reduceLE,↓u_setN]
 refine LoopQ.inv (S:=List Int×Bool×List (Int×Int)×AV×Store) (fun q=>[(4,.ptr id 0),(5,q.2.2.2.1)]) (fun q=>q.2.2.2.2)
  (fun q=>RP σ id q.1 q.2.1 q.2.2.2.2∧Own 2 σ (q.2.2.1.map pxC) q.2.2.2.1 q.2.2.2.2∧q.2.2.1.length+q.1.length≤B.length+1∧U8s q.1∧q.1.length≤B.length∧((q.2.1=false∧q.2.2.1.length+q.1.length≤B.length∧dN B=(dN q.1).map (q.2.2.1 ++ ·))∨(q.2.1=true∧dN B=none)))
  (fun q=>if q.2.1 then 0 else q.1.length+1) (B,false,[],.nils,s) rfl (Store.sub_refl _) ⟨h,.nil,by simp,hu,Nat.le_refl _,.inl ⟨rfl,by simp,by simp⟩⟩ ?_
 rintro ⟨R,bad,l,av,s⟩ ⟨h,ho,hl,hR,hRM,hj⟩
 simp only at h ho hl hR hRM hj
 simp only [↓vcPre,↓z0,↓reduceIte,vcPost,vcStd,Nat.reduceEqDiff,reduceCtorEq,Nat.reduceAdd,Nat.reduceLeDiff,Int.reduceLT,Int.reduceLE,↓u_setN]
 refine (s30 h).Q ?_
 rintro r s' ⟨rfl,rfl⟩
 simp only [↓vcPre,↓z0,↓reduceIte,vcPost,vcStd,Nat.reduceEqDiff,reduceCtorEq,Nat.reduceAdd,Nat.reduceLeDiff,Int.reduceLT,Int.reduceLE,↓u_setN]
 refine ⟨fun c1 => ?_,fun c1 => ?_⟩
 ·obtain ⟨rfl,hlen,hd⟩:bad=false∧l.length+R.length≤B.length∧dN B=(dN R).map (l ++ ·):=by
   rcases hj with hj | ⟨hb,_⟩
   ·exact hj
   ·rw [hb] at c1;simp at c1
  match R,hR,h,hRM,hlen,hd,hl with
  | [],_,_,_,_,_,_=>simp at c1
  | n::R,hR,h,hRM,hlen,hd,hl =>
  have hn:=hR n (by simp)
  have hRu:U8s R:=fun x hx=>hR x (by simp [hx])
  obtain ⟨hb1,hb2⟩:=h.base
  refine (s58 hb1 (by simp at hRM ⊢;omega) hR).Q ?_
  rintro r s2 ⟨rfl,h2⟩
  have hov:=(ho.delBox h.2.2).mono h2.2.1
  rw [wc] at h2 ⊢
  simp only at h2
  simp only [↓vcPre,↓z0,↓reduceIte,vcPost,vcStd,Nat.reduceEqDiff,reduceCtorEq,Nat.reduceAdd,Nat.reduceLeDiff,Int.reduceLT,Int.reduceLE,↓u_setN]
  refine ⟨fun c2 => ?_,fun c2 => ?_⟩
  ·refine EndQ.twoNil _ 2 σ rfl (Store.sub_trans hb2 h2.2.1) ⟨rfl,?_⟩
   rw [hd,vd,if_pos c2];rfl
  ·have w1:IntKind.i64.wrap (n+8)=n+8:=z7 (by unfold I64;omega)
   have w2:IntKind.i64.wrap (n+8 - 1)=n+8 - 1:=z7 (by unfold I64;omega)
   have w3:IntKind.i64.wrap ((n+8 - 1).tdiv 8)=(szN n:Int):=by
    rw [Int.tdiv_eq_ediv_of_nonneg (by omega),z7 (by unfold I64;omega)]
    unfold szN;omega
   simp only [w1,w2,w3,↓vcPre,↓z0,↓reduceIte,vcPost,vcStd,Nat.reduceEqDiff,reduceCtorEq,Nat.reduceAdd,Nat.reduceLeDiff,Int.reduceLT,Int.reduceLE,↓u_setN]
   refine ⟨by decide,?_⟩
   obtain ⟨hb3,hb4⟩:=h2.base
   refine (s28 hb3 (by simp at hRM;omega) (szN n:Int)).Q ?_
   rintro r s3 ⟨rfl,h3⟩
   have hov3:=(hov.delBox h2.2.2).mono h3.2.1
   have hsz:=wq hn.1 (by omega:n≤32)
   have hraw:(rawM (szN n:Int) R false).1.length≤4:=by have:=qv (k:=szN n) (R:=R) (bad:=false);omega
   have hrau:=(vf (n:=(szN n:Int)) (bad:=false) hRu).1
   have hσ3:Store.sub σ s3:=Store.sub_trans hb2 (Store.sub_trans hb4 h3.2.1)
   obtain ⟨W,hW⟩:∃ W,W=(rawM (szN n:Int) R false).1:=⟨_,rfl⟩
   rw [←hW] at hraw hrau ⊢
   simp only [↓vcPre,↓z0,↓reduceIte,vcPost,vcStd,Nat.reduceEqDiff,reduceCtorEq,Nat.reduceAdd,Nat.reduceLeDiff,Int.reduceLT,Int.reduceLE,↓u_setN]
   have wl:IntKind.i64.wrap ((W.length:Nat):Int)=(W.length:Int):=z7 (by unfold I64;omega)
   refine LoopQ.inv (S:=Nat) (fun k=>[(4,.ptr id 0),(5,av),(6,.int .i64 n),(7,.int .u32 (val4 (W.take k))),(24,.sl 1 (W.map cB)),(25,.int .i64 (W.length:Int)),(26,.int .i64 (k:Int))]) (fun _=>s3) (fun k=>k≤W.length) (fun k=>W.length+1 - k) 0 rfl (Store.sub_refl _) (by omega) ?_
   intro k hk
   simp only [↓vcPre,↓z0,↓reduceIte,vcPost,vcStd,Nat.reduceEqDiff,reduceCtorEq,Nat.reduceAdd,Nat.reduceLeDiff,Int.reduceLT,Int.reduceLE,↓u_setN]
   refine ⟨fun c3 => ?_,fun c3 => ?_⟩
   ·have hx:=hrau _ (List.getElem_mem c3)
    have ek:IntKind.i64.wrap ((k:Int)+1)=((k+1:Nat):Int):=by rw [z7 (by unfold I64;omega)];omega
    have e8:IntKind.i64.wrap (8*((k+1:Nat):Int))=8*((k:Int)+1):=by rw [z7 (by unfold I64;omega)];omega
    have e32:IntKind.i64.wrap (32 - 8*((k:Int)+1))=32 - 8*((k:Int)+1):=z7 (by unfold I64;omega)
    have ex:IntKind.u32.wrap (W[k])=W[k]:=by rw [z6i];omega
    simp only [cB,ek,e8,e32,ex,z8b hrau c3 (by omega),↓vcPre,↓z0,↓reduceIte,vcPost,vcStd,Nat.reduceEqDiff,reduceCtorEq,Nat.reduceAdd,Nat.reduceLeDiff,Int.reduceLT,Int.reduceLE,↓u_setN]
    exact ⟨c3,by omega,NextQ.to (k+1) rfl (Store.sub_refl _) (by omega) (by omega)⟩
   ·have hkE:k=W.length:=by omega
    subst hkE
    rw [List.take_length]
    simp only [Tsz.t33_41]
    simp only [↓vcPre,↓z0,↓reduceIte,vcPost,vcStd,Nat.reduceEqDiff,reduceCtorEq,Nat.reduceAdd,Nat.reduceLeDiff,Int.reduceLT,Int.reduceLE,↓u_setN]
    refine (c59 (val4 W) n (by unfold I64;omega)).Q ?_
    simp only [↓vcPre,↓z0,↓reduceIte,vcPost,vcStd,Nat.reduceEqDiff,reduceCtorEq,Nat.reduceAdd,Nat.reduceLeDiff,Int.reduceLT,Int.reduceLE,↓u_setN]
    refine AllocQ.i0 fun b hb => ?_
    simp only [↓vcPre,↓z0,↓reduceIte,vcPost,vcStd,Nat.reduceEqDiff,reduceCtorEq,Nat.reduceAdd,Nat.reduceLeDiff,Int.reduceLT,Int.reduceLE,↓u_setN]
    have hsb:=Store.sub_set s3 b (.arr 2 [[.int .u32 (ofF (val4 W) n).1,.int .i64 (ofF (val4 W) n).2]]) hb
    have h4:=((h3.weak hb4).weak hb2).mono hsb
    refine Own.appK (τ:=σ) h4.2.1 (hov3.mono hsb) (zo (Store.set_same _ _ _) rfl) (by simp at hl ⊢;omega) fun v' s4 hs4 ho4 hk4 => ?_
    have h5:RP σ id (rawM (szN n:Int) R false).2.1 (rawM (szN n:Int) R false).2.2 s4:=⟨h4.1,hs4,hk4 _ _ h4.2.2 (fun M e=>by cases e)⟩
    have ho5:Own 2 σ ((l++[ofF (val4 W) n]).map pxC) v' s4:=by simpa [pxC] using ho4
    by_cases hs:R.length<szN n
    ·have e:rawM (szN n:Int) R false=([],R,true):=by
      unfold rawM;rw [if_pos (by right;omega)]
     rw [e] at h5
     refine NextQ.to (R,true,l++[ofF (val4 W) n],v',s4) rfl (Store.sub_refl _) (by simp) ⟨h5,ho5,by simp at hl ⊢;omega,hRu,by simp at hRM ⊢;omega,.inr ⟨rfl,?_⟩⟩
     rw [hd,vd,if_neg c2,if_pos hs];rfl
    ·have e:=w6 (n:=(szN n:Int)) (R:=R) (by omega) (by omega)
     rw [Int.toNat_natCast] at e
     rw [e] at h5 hW
     simp only at hW
     refine NextQ.to (R.drop (szN n),false,l++[ofF (val4 W) n],v',s4) rfl (Store.sub_refl _) (by simp;omega) ⟨h5,ho5,by simp at hl ⊢;omega,hRu.drop _,by simp at hRM ⊢;omega,.inl ⟨rfl,by simp at hlen ⊢;omega,?_⟩⟩
     rw [hd,vd,if_neg c2,if_neg hs,←hW,Option.map_map]
     congr 1
     funext x
     simp
 ·refine (s31 h).Q ?_
  rintro r s2 ⟨rfl,rfl⟩
  rcases hj with ⟨rfl,_,hd⟩ | ⟨rfl,hd⟩
  ·simp only [↓vcPre,↓z0,↓reduceIte,vcPost,vcStd,Nat.reduceEqDiff,reduceCtorEq,Nat.reduceAdd,Nat.reduceLeDiff,Int.reduceLT,Int.reduceLE,↓u_setN]
   have hR0:R=[]:=by
    cases R with
    | nil=>rfl
    | cons x R=>simp at c1
   rw [hR0,uh,Option.map_some,List.append_nil] at hd
   exact EndQ.ownTwo rfl ho h.2.1 ⟨rfl,by rw [hd];rfl⟩
  ·simp only [↓vcPre,↓z0,↓reduceIte,vcPost,vcStd,Nat.reduceEqDiff,reduceCtorEq,Nat.reduceAdd,Nat.reduceLeDiff,Int.reduceLT,Int.reduceLE,↓u_setN]
   exact EndQ.twoNil _ 2 σ rfl h.2.1 ⟨rfl,by rw [hd];rfl⟩
theorem RZ.at {σ τ s:Store} {v:AV} {B:List Int} {id:Nat} {R:List Int} {lack:Bool} (h:RZ σ v B τ id R lack s):∃ n:Nat,s id=some (.box [v,.int .i64 (n:Int),.bool lack]):=by
 obtain ⟨n,_,_,_,h4,_⟩:=h;exact ⟨n,h4⟩
end Go.Am
namespace Go.Am.Ts1
open Go.Proofs Go.Am.B
def b11:BC:=z [k 2 .nils,k 3 (.bool false)] [0] (z [k 4 .nils] [0,4] (.seq (z [j 5 0] [0,4,5] (.block 0 (.loop [0,4,5] (.seq (z [m 6 5,m 7 0,u 8 .len 7,b 9 .lss 6 8] [0,4,5,9] (.cond (.t 9) .skip (.exit 0))) (.seq (.block 1 (.seq (z [m 12 0,m 13 5,x 14 2 12 13,⟨some 15,none,.load (.ld 2 true),[.t 14]⟩,g 16 37 [.t 15],u 17 .not 16] [0,4,5,17] (.cond (.t 17) (z [k 2 .nils,k 3 (.bool false)] [2,3] .ret) .skip)) (z [m 18 4] [0,5,18] (z [m 19 0] [0,5,18,19] (z [m 20 5] [0,5,18,19,20] (z [x 21 2 19 20] [0,5,18,21] (z [f 22 1 21] [0,5,18,22] (z [m 27 0] [0,5,18,22,27] (z [m 28 5] [0,5,18,22,27,28] (z [x 29 2 27 28] [0,5,18,22,29] (z [f 30 0 29] [0,5,18,22,30] (z [m 33 0] [0,5,18,22,30,33] (z [m 34 5] [0,5,18,22,30,33,34] (z [x 35 2 33 34] [0,5,18,22,30,35] (z [l 23 1 22] [0,5,18,23,30,35] (z [u 24 (.conv .u8) 23] [0,5,18,24,30,35] (.both (z [⟨some 25,none,.alloc (.mksl 1 1),[.t 24]⟩] [0,5,18,25,30,35] (.both (z [⟨some 26,none,.loud (.app 1 1),[.t 18,.t 25]⟩] [0,5,26,30,35] (z [l 31 1 30] [0,5,26,31,35] (z [⟨some 36,none,.load (.ld 2 true),[.t 35]⟩] [0,5,26,31,36] (z [⟨some 32,none,.qcall 38,[.c .nils,.t 31]⟩] [0,5,26,32,36] (z [⟨some 37,none,.qcall 39,[.t 36]⟩] [0,5,26,32,37] (z [c 38 .sub 37 1] [0,5,26,32,38] (z [p 39 (.slice 1 false true) [.t 32,.t 38]] [0,5,26,39] (z [⟨some 40,none,.loud (.app 1 1),[.t 26,.t 39]⟩] [0,5,40] (z [m 4 40] [0,4,5] (.ops [] [0,4,5])))))))))) (.both (z [l 31 1 30] [0,5,18,25,31,35] (.both (z [⟨some 26,none,.loud (.app 1 1),[.t 18,.t 25]⟩] [0,5,26,31,35] (z [⟨some 36,none,.load (.ld 2 true),[.t 35]⟩] [0,5,26,31,36] (z [⟨some 32,none,.qcall 38,[.c .nils,.t 31]⟩] [0,5,26,32,36] (z [⟨some 37,none,.qcall 39,[.t 36]⟩] [0,5,26,32,37] (z [c 38 .sub 37 1] [0,5,26,32,38] (z [p 39 (.slice 1 false true) [.t 32,.t 38]] [0,5,26,39] (z [⟨some 40,none,.loud (.app 1 1),[.t 26,.t 39]⟩] [0,5,40] (z [m 4 40] [0,4,5] (.ops [] [0,4,5]))))))))) (.both (z [⟨some 36,none,.load (.ld 2 true),[.t 35]⟩] [0,5,18,25,31,36] (z [⟨some 26,none,.loud (.app 1 1),[.t 18,.t 25]⟩] [0,5,26,31,36] (z [⟨some 32,none,.qcall 38,[.c .nils,.t 31]⟩] [0,5,26,32,36] (z [⟨some 37,none,.qcall 39,[.t 36]⟩] [0,5,26,32,37] (z [c 38 .sub 37 1] [0,5,26,32,38] (z [p 39 (.slice 1 false true) [.t 32,.t 38]] [0,5,26,39] (z [⟨some 40,none,.loud (.app 1 1),[.t 26,.t 39]⟩] [0,5,40] (z [m 4 40] [0,4,5] (.ops [] [0,4,5]))))))))) (.top)))) (.both (z [⟨some 36,none,.load (.ld 2 true),[.t 35]⟩] [0,5,18,25,30,36] (.both (z [⟨some 26,none,.loud (.app 1 1),[.t 18,.t 25]⟩] [0,5,26,30,36] (z [l 31 1 30] [0,5,26,31,36] (z [⟨some 32,none,.qcall 38,[.c .nils,.t 31]⟩] [0,5,26,32,36] (z [⟨some 37,none,.qcall 39,[.t 36]⟩] [0,5,26,32,37] (z [c 38 .sub 37 1] [0,5,26,32,38] (z [p 39 (.slice 1 false true) [.t 32,.t 38]] [0,5,26,39] (z [⟨some 40,none,.loud (.app 1 1),[.t 26,.t 39]⟩] [0,5,40] (z [m 4 40] [0,4,5] (.ops [] [0,4,5]))))))))) (.both (z [l 31 1 30] [0,5,18,25,31,36] (z [⟨some 26,none,.loud (.app 1 1),[.t 18,.t 25]⟩] [0,5,26,31,36] (z [⟨some 32,none,.qcall 38,[.c .nils,.t 31]⟩] [0,5,26,32,36] (z [⟨some 37,none,.qcall 39,[.t 36]⟩] [0,5,26,32,37] (z [c 38 .sub 37 1] [0,5,26,32,38] (z [p 39 (.slice 1 false true) [.t 32,.t 38]] [0,5,26,39] (z [⟨some 40,none,.loud (.app 1 1),[.t 26,.t 39]⟩] [0,5,40] (z [m 4 40] [0,4,5] (.ops [] [0,4,5]))))))))) (.top)))) (.top))))) (.both (z [l 31 1 30] [0,5,18,24,31,35] (.both (z [⟨some 25,none,.alloc (.mksl 1 1),[.t 24]⟩] [0,5,18,25,31,35] (.both (z [⟨some 26,none,.loud (.app 1 1),[.t 18,.t 25]⟩] [0,5,26,31,35] (z [⟨some 36,none,.load (.ld 2 true),[.t 35]⟩] [0,5,26,31,36] (z [⟨some 32,none,.qcall 38,[.c .nils,.t 31]⟩] [0,5,26,32,36] (z [⟨some 37,none,.qcall 39,[.t 36]⟩] [0,5,26,32,37] (z [c 38 .sub 37 1] [0,5,26,32,38] (z [p 39 (.slice 1 false true) [.t 32,.t 38]] [0,5,26,39] (z [⟨some 40,none,.loud (.app 1 1),[.t 26,.t 39]⟩] [0,5,40] (z [m 4 40] [0,4,5] (.ops [] [0,4,5]))))))))) (.both (z [⟨some 36,none,.load (.ld 2 true),[.t 35]⟩] [0,5,18,25,31,36] (z [⟨some 26,none,.loud (.app 1 1),[.t 18,.t 25]⟩] [0,5,26,31,36] (z [⟨some 32,none,.qcall 38,[.c .nils,.t 31]⟩] [0,5,26,32,36] (z [⟨some 37,none,.qcall 39,[.t 36]⟩] [0,5,26,32,37] (z [c 38 .sub 37 1] [0,5,26,32,38] (z [p 39 (.slice 1 false true) [.t 32,.t 38]] [0,5,26,39] (z [⟨some 40,none,.loud (.app 1 1),[.t 26,.t 39]⟩] [0,5,40] (z [m 4 40] [0,4,5] (.ops [] [0,4,5]))))))))) (.top)))) (.both (z [⟨some 36,none,.load (.ld 2 true),[.t 35]⟩] [0,5,18,24,31,36] (z [⟨some 25,none,.alloc (.mksl 1 1),[.t 24]⟩] [0,5,18,25,31,36] (z [⟨some 26,none,.loud (.app 1 1),[.t 18,.t 25]⟩] [0,5,26,31,36] (z [⟨some 32,none,.qcall 38,[.c .nils,.t 31]⟩] [0,5,26,32,36] (z [⟨some 37,none,.qcall 39,[.t 36]⟩] [0,5,26,32,37] (z [c 38 .sub 37 1] [0,5,26,32,38] (z [p 39 (.slice 1 false true) [.t 32,.t 38]] [0,5,26,39] (z [⟨some 40,none,.loud (.app 1 1),[.t 26,.t 39]⟩] [0,5,40] (z [m 4 40] [0,4,5] (.ops [] [0,4,5])))))))))) (.top)))) (.both (z [⟨some 36,none,.load (.ld 2 true),[.t 35]⟩] [0,5,18,24,30,36] (.both (z [⟨some 25,none,.alloc (.mksl 1 1),[.t 24]⟩] [0,5,18,25,30,36] (.both (z [⟨some 26,none,.loud (.app 1 1),[.t 18,.t 25]⟩] [0,5,26,30,36] (z [l 31 1 30] [0,5,26,31,36] (z [⟨some 32,none,.qcall 38,[.c .nils,.t 31]⟩] [0,5,26,32,36] (z [⟨some 37,none,.qcall 39,[.t 36]⟩] [0,5,26,32,37] (z [c 38 .sub 37 1] [0,5,26,32,38] (z [p 39 (.slice 1 false true) [.t 32,.t 38]] [0,5,26,39] (z [⟨some 40,none,.loud (.app 1 1),[.t 26,.t 39]⟩] [0,5,40] (z [m 4 40] [0,4,5] (.ops [] [0,4,5]))))))))) (.both (z [l 31 1 30] [0,5,18,25,31,36] (z [⟨some 26,none,.loud (.app 1 1),[.t 18,.t 25]⟩] [0,5,26,31,36] (z [⟨some 32,none,.qcall 38,[.c .nils,.t 31]⟩] [0,5,26,32,36] (z [⟨some 37,none,.qcall 39,[.t 36]⟩] [0,5,26,32,37] (z [c 38 .sub 37 1] [0,5,26,32,38] (z [p 39 (.slice 1 false true) [.t 32,.t 38]] [0,5,26,39] (z [⟨some 40,none,.loud (.app 1 1),[.t 26,.t 39]⟩] [0,5,40] (z [m 4 40] [0,4,5] (.ops [] [0,4,5]))))))))) (.top)))) (.both (z [l 31 1 30] [0,5,18,24,31,36] (z [⟨some 25,none,.alloc (.mksl 1 1),[.t 24]⟩] [0,5,18,25,31,36] (z [⟨some 26,none,.loud (.app 1 1),[.t 18,.t 25]⟩] [0,5,26,31,36] (z [⟨some 32,none,.qcall 38,[.c .nils,.t 31]⟩] [0,5,26,32,36] (z [⟨some 37,none,.qcall 39,[.t 36]⟩] [0,5,26,32,37] (z [c 38 .sub 37 1] [0,5,26,32,38] (z [p 39 (.slice 1 false true) [.t 32,.t 38]] [0,5,26,39] (z [⟨some 40,none,.loud (.app 1 1),[.t 26,.t 39]⟩] [0,5,40] (z [m 4 40] [0,4,5] (.ops [] [0,4,5])))))))))) (.top)))) (.top)))))))))))))))))))) (.ops [m 10 5,c 11 .add 10 1,m 5 11] [0,4,5])))))) (z [m 41 4,m 2 41,k 3 (.bool true)] [2,3] .ret)))
def F11:Fn Tryz.prog 11:=Fn.mkX false b11 [.t 2,.t 3] 42 Tryz.f11 _ Tryz.func11 (by decide) rfl Tryz.ntmps11 (by kernel_rfl) (by kernel_rfl)
end Go.Am.Ts1
namespace Go.Am
open Go.Proofs Go.Sort
def pxB (p:Int×Int):List Int:=p.2::(b4 p.1).take (szN p.2)
def encN (l:List (Int×Int)):List Int:=l.flatMap pxB
def Rights (l:List (Int×Int)):Prop:=∀ p ∈ l,rightF p.1 p.2=true
theorem ye {a n:Int} (h:rightF a n=true):0≤n∧n≤32:=by
 unfold rightF at h
 simp only [Bool.and_eq_true,decide_eq_true_eq] at h
 exact h.1
theorem c39 (p:Int×Int) (h:rightF p.1 p.2=true):Pur Tryz.prog 39 [.agg (pxC p)] (.int .i64 (1+(szN p.2:Int))):=by
 refine zh Tst.F39 (by simp [Tst.F39,Fn.mkX]) fun σ => ?_
 simp only [Tst.F39,Fn.mkX,Tst.b39,pxC]
 simp only [↓vcPre,↓z0,↓reduceIte,vcPost,vcStd,Nat.reduceEqDiff,reduceCtorEq,Nat.reduceAdd,Nat.reduceLeDiff,Int.reduceLT,Int.reduceLE,↓u_setN]
 refine AllocQ.i0 fun i hi => ?_
 simp only [↓vcPre,↓z0,↓reduceIte,vcPost,vcStd,Nat.reduceEqDiff,reduceCtorEq,Nat.reduceAdd,Nat.reduceLeDiff,Int.reduceLT,Int.reduceLE,↓u_setN]
 refine (c37 p.1 p.2).Q ?_
 rw [h]
 obtain ⟨g1,g2⟩:=ye h
 have w1:IntKind.i64.wrap (p.2+7)=p.2+7:=z7 (by unfold I64;omega)
 have w3:IntKind.i64.wrap ((p.2+7).tdiv 8)=(szN p.2:Int):=by
  rw [Int.tdiv_eq_ediv_of_nonneg (by omega),z7 (by unfold I64;omega)]
  unfold szN;omega
 have:=wq g1 g2
 have w4:IntKind.i64.wrap (1+(szN p.2:Int))=1+(szN p.2:Int):=z7 (by unfold I64;omega)
 simp only [w1,w3,w4,↓vcPre,↓z0,↓reduceIte,vcPost,vcStd,Nat.reduceEqDiff,reduceCtorEq,Nat.reduceAdd,Nat.reduceLeDiff,Int.reduceLT,Int.reduceLE,↓u_setN]
 exact ⟨by decide,Store.sub_set _ _ _ hi⟩
theorem xl (l:List (Int×Int)) (h:Rights l):(encN l).length≤5*l.length:=by
 induction l with
 | nil=>simp [encN]
 | cons p l ih =>
   have h1:=ih fun q hq=>h q (by simp [hq])
   have h2:=ye (h p (by simp))
   have h3:=wq h2.1 h2.2
   simp only [encN,List.flatMap_cons,List.length_append,List.length_cons,pxB,List.length_take] at *
   omega
set_option maxHeartbeats 1000000 in
theorem s11 (l:List (Int×Int)) (hl:l.length≤100000) (hr:Rights l) (σ:Store):ACalls Tryz.prog 11 [.sl 2 (l.map pxC)] σ (fun r s=>Store.sub σ s∧∃ v,r = .tup [v,.bool true]∧Own 1 σ ((encN l).map cB) v s):=by
 refine zd Ts1.F11 (by simp [Ts1.F11,Fn.mkX]) ?_
 simp only [Ts1.F11,Fn.mkX,Ts1.b11]
 simp only [↓vcPre,↓z0,↓reduceIte,vcPost,vcStd,Nat.reduceEqDiff,reduceCtorEq,Nat.reduceAdd,Nat.reduceLeDiff,Int.reduceLT,Int.reduceLE,↓u_setN]
 refine LoopQ.inv (S:=Nat×AV×Store) (fun w=>[(0,.sl 2 (l.map pxC)),(4,w.2.1),(5,.int .i64 (w.1:Int))]) (fun w=>w.2.2)
  (fun w=>w.1≤l.length∧Own 1 σ ((encN (l.take w.1)).map cB) w.2.1 w.2.2∧Store.sub σ w.2.2) (fun w=>l.length+1 - w.1) (0,.nils,σ) rfl (Store.sub_refl _) ⟨by omega,Own.nil,Store.sub_refl _⟩ ?_
 rintro ⟨k,v,s⟩ ⟨i1,i2,i3⟩
 simp only at i1 i2 i3
 simp only [↓vcPre,↓z0,↓reduceIte,vcPost,vcStd,Nat.reduceEqDiff,reduceCtorEq,Nat.reduceAdd,Nat.reduceLeDiff,Int.reduceLT,Int.reduceLE,↓u_setN]
 refine ⟨fun c1 => ?_,fun c1 => ?_⟩
 ·have hp:=hr _ (List.getElem_mem c1)
  obtain ⟨g1,g2⟩:=ye hp
  simp only [pxC,↓vcPre,↓z0,↓reduceIte,vcPost,vcStd,Nat.reduceEqDiff,reduceCtorEq,Nat.reduceAdd,Nat.reduceLeDiff,Int.reduceLT,Int.reduceLE,↓u_setN]
  refine ⟨c1,(c37 _ _).Q ?_⟩
  rw [hp]
  have w8:IntKind.u8.wrap l[k].2=l[k].2:=by simp [IntKind.wrap,IntKind.bits,IntKind.signed];omega
  simp only [pxC,w8,↓vcPre,↓z0,↓reduceIte,vcPost,vcStd,Nat.reduceEqDiff,reduceCtorEq,Nat.reduceAdd,Nat.reduceLeDiff,Int.reduceLT,Int.reduceLE,↓u_setN]
  have hlen:=xl (l.take k) (fun p hp=>hr p (List.mem_of_mem_take hp))
  have hlk:(l.take k).length≤100000:=by rw [List.length_take];omega
  have hsz:=wq g1 g2
  have ws:IntKind.i64.wrap (1+(szN l[k].2:Int) - 1)=(szN l[k].2:Int):=by rw [z7 (by unfold I64;omega)];omega
  have ek:IntKind.i64.wrap ((k:Int)+1)=((k+1:Nat):Int):=by rw [z7 (by unfold I64;omega)];omega
  have hcs:Pur Tryz.prog 39 [.agg [.int .u32 l[k].1,.int .i64 l[k].2]] (.int .i64 (1+(szN l[k].2:Int))):=c39 l[k] hp
  refine ⟨c1,c1,c1,?_⟩
  and_intros
  all_goals
   refine AllocQ.i0 fun q hq => ?_
   simp only [pxC,↓vcPre,↓z0,↓reduceIte,vcPost,vcStd,Nat.reduceEqDiff,reduceCtorEq,Nat.reduceAdd,Nat.reduceLeDiff,Int.reduceLT,Int.reduceLE,↓u_setN]
   have hsq:=Store.sub_set s q (.arr 1 [[.int .u8 l[k].2]]) hq
   and_intros
   all_goals
    refine Own.appM (bytes:=1) (τ:=σ) (Store.sub_trans i3 hsq) (i2.mono hsq) (zo (Store.set_same _ _ _) rfl) (by simp;omega) fun v1 s1 hs1 ho1 => ?_
    refine (s38 (L:=[]) (v := .nils) (Rd.nils) (by simp) l[k].1).Q ?_
    rintro r s2 ⟨hs2,ho2⟩
    simp only [pxC,↓vcPre,↓z0,↓reduceIte,vcPost,vcStd,Nat.reduceEqDiff,reduceCtorEq,Nat.reduceAdd,Nat.reduceLeDiff,Int.reduceLT,Int.reduceLE,↓u_setN]
    refine ⟨hs2,hcs.Q ?_⟩
    have h2r:Rd 1 s2 ((b4 l[k].1).map cB) r:=Rd.own (by simpa using ho2)
    obtain ⟨x,hx,hxr⟩:=h2r.slice (lo:=0) (hi:=szN l[k].2) (by omega) (by simp [b4];omega)
    have hx':pSlice 1 r 0 (some (szN l[k].2:Int))=some x:=hx
    simp only [ws,hx',pxC,↓vcPre,↓z0,↓reduceIte,vcPost,vcStd,Nat.reduceEqDiff,reduceCtorEq,Nat.reduceAdd,Nat.reduceLeDiff,Int.reduceLT,Int.reduceLE,↓u_setN]
    refine Own.appM (bytes:=1) (τ:=σ) (Store.sub_trans hs1 hs2) (ho1.mono hs2) (hxr.1 _ (Store.sub_refl _)) (by simp;omega) fun v2 s3 hs3 ho3 => ?_
    rw [ek]
    refine NextQ.to (k+1,v2,s3) rfl (Store.sub_refl _) (by simp only;omega) ⟨by simp only;omega,?_,hs3⟩
    have e:(encN (l.take (k+1)))=encN (l.take k)++pxB l[k]:=by
     unfold encN;rw [List.take_succ_eq_append_getElem c1,List.flatMap_append];simp
    simp only [e,List.map_append]
    simpa [pxB,cB,List.map_take] using ho3
 ·have hk:k=l.length:=by omega
  subst hk
  rw [List.take_length] at i2
  exact EndQ.to _ _ rfl (Store.sub_refl _) ⟨i3,v,rfl,i2⟩
end Go.Am
namespace Go.Am
open Go.Proofs
theorem z96:∀ n:Fin 33,~~~(BitVec.ofInt 32 (maskF (n.val:Int)))=BitVec.ofNat 32 (2 ^ (32 - n.val) - 1):=by decide+kernel
theorem z24 (a n:Int):bitInt .andNot .u32 a (maskF n)=IntKind.u32.wrap ((BitVec.ofInt 32 a &&& ~~~(BitVec.ofInt 32 (maskF n))).toNat:Int):=rfl
theorem z6u (a n:Int):bitInt .and .u32 a (maskF n)=IntKind.u32.wrap ((BitVec.ofInt 32 a &&& (BitVec.ofInt 32 (maskF n))).toNat:Int):=rfl
theorem z07 (x:BitVec 32):IntKind.u32.wrap (x.toNat:Int)=(x.toNat:Int):=by
 have:=x.isLt
 rw [z6i];omega
theorem zfc (x:BitVec 32):BitVec.ofInt 32 (x.toNat:Int)=x:=by simp
theorem z2g (a n:Int):rightF (ofF a n).1 (ofF a n).2=true∧0≤(ofF a n).1∧(ofF a n).1<4294967296:=by
 simp only [ofF,ur]
 have hand:=z6u a n
 rw [z07] at hand
 refine ⟨?_,by rw [hand];omega,by rw [hand];have:=(BitVec.ofInt 32 a &&& BitVec.ofInt 32 (maskF n)).isLt;omega⟩
 unfold rightF
 simp only [Bool.and_eq_true,decide_eq_true_eq]
 refine ⟨by omega,?_⟩
 rw [ur,z24,hand,zfc,z07]
 have:(BitVec.ofInt 32 a &&& BitVec.ofInt 32 (maskF n)) &&& ~~~(BitVec.ofInt 32 (maskF n))=0#32:=by
  rw [BitVec.and_assoc,BitVec.and_not_self]
  simp
 rw [this];rfl
theorem z2i {a n:Int} (h:rightF a n=true) (h0:0≤a) (h1:a<4294967296):a % ((2 ^ (32 - n.toNat):Nat):Int)=0∧bitInt .and .u32 a (maskF n)=a:=by
 obtain ⟨g1,g2⟩:=ye h
 unfold rightF at h
 simp only [Bool.and_eq_true,decide_eq_true_eq] at h
 have h3:=h.2
 rw [z24,z07] at h3
 have hz:BitVec.ofInt 32 a &&& ~~~(BitVec.ofInt 32 (maskF n))=0#32:=by
  apply BitVec.eq_of_toNat_eq
  simp only [BitVec.toNat_ofNat]
  omega
 have hn:n=((⟨n.toNat,by omega⟩:Fin 33).val:Int):=by simp;omega
 have ha:(BitVec.ofInt 32 a).toNat=a.toNat:=by rw [BitVec.toNat_ofInt];omega
 constructor
 ·have hm:=z96 ⟨n.toNat,by omega⟩
  rw [←hn] at hm
  rw [hm] at hz
  have h4:=congrArg BitVec.toNat hz
  rw [BitVec.toNat_and,ha,BitVec.toNat_ofNat] at h4
  have hp:2 ^ (32 - n.toNat)≤2 ^ 32:=Nat.pow_le_pow_right (by decide) (by omega)
  have hp0:0<2 ^ (32 - n.toNat):=Nat.two_pow_pos _
  rw [Nat.mod_eq_of_lt (show 2 ^ (32 - n.toNat) - 1<2 ^ 32 by omega),Nat.and_two_pow_sub_one_eq_mod] at h4
  have h5:a.toNat % 2 ^ (32 - n.toNat)=0:=h4
  have e:a=(a.toNat:Int):=by omega
  rw [e]
  exact_mod_cast h5
 ·rw [z6u,z07]
  have hx:BitVec.ofInt 32 a &&& BitVec.ofInt 32 (maskF n)=BitVec.ofInt 32 a:=by
   have e:∀ x m:BitVec 32,x &&& ~~~m=0#32→x &&& m=x:=fun x m hxm=>by
    apply BitVec.eq_of_getLsbD_eq
    intro i hi
    have hb:(x &&& ~~~m).getLsbD i=(0#32).getLsbD i:=by rw [hxm]
    rw [BitVec.getLsbD_and,BitVec.getLsbD_not,decide_eq_true hi,BitVec.getLsbD_zero,Bool.true_and] at hb
    rw [BitVec.getLsbD_and]
    revert hb
    cases x.getLsbD i <;> cases m.getLsbD i <;> decide
   exact e _ _ hz
  rw [hx,ha]
  omega
theorem z4h {a:Int} {i j:Nat} (h:a % ((2 ^ j:Nat):Int)=0) (hij:i≤j):a % ((2 ^ i:Nat):Int)=0:=by
 apply Int.emod_eq_zero_of_dvd
 refine Int.dvd_trans ?_ (Int.dvd_of_emod_eq_zero h)
 exact_mod_cast Nat.pow_dvd_pow 2 hij
theorem z8c {a n:Int} (h:rightF a n=true) (h0:0≤a) (h1:a<4294967296):val4 ((b4 a).take (szN n))=a:=by
 obtain ⟨g1,g2⟩:=ye h
 obtain ⟨hm,_⟩:=z2i h h0 h1
 have hs:=wq g1 g2
 have h8:32 - n.toNat≥32 - 8*szN n:=by unfold szN;omega
 have hm':=z4h hm (i:=32 - 8*szN n) h8
 have hc:szN n=0∨szN n=1∨szN n=2∨szN n=3∨szN n=4:=by omega
 rcases hc with e | e | e | e | e <;> rw [e] at hm' ⊢ <;> simp [b4,val4,n4] at hm' ⊢ <;> omega
theorem zew {p:Int×Int} (h:rightF p.1 p.2=true) (h0:0≤p.1) (h1:p.1<4294967296) (R:List Int):dN (pxB p++R)=(dN R).map (p :: ·):=by
 obtain ⟨g1,g2⟩:=ye h
 have hs:=wq g1 g2
 have hl:((b4 p.1).take (szN p.2)).length=szN p.2:=by simp [b4];omega
 simp only [pxB,List.cons_append]
 rw [vd,if_neg (by omega),if_neg (by rw [List.length_append,hl];omega),List.drop_left' hl,List.take_left' hl,z8c h h0 h1]
 have e:ofF p.1 p.2=p:=by
  unfold ofF
  rw [ur,(z2i h h0 h1).2,show max (min p.2 32) 0=p.2 by omega]
 rw [e]
def U32p (l:List (Int×Int)):Prop:=∀ p ∈ l,0≤p.1∧p.1<4294967296
theorem qj:∀ (l:List (Int×Int)),Rights l→U32p l→dN (encN l)=some l
 | [],_,_=>rfl
 | p::l,hr,hu=>by
   have ih:=qj l (fun q hq=>hr q (by simp [hq])) (fun q hq=>hu q (by simp [hq]))
   have e:encN (p::l)=pxB p++encN l:=by simp [encN]
   rw [e,zew (hr p (by simp)) (hu p (by simp)).1 (hu p (by simp)).2,ih];rfl
end Go.Am
namespace Go.Am.Ts2
open Go.Proofs Go.Am.B
def t9_84:BC := .seq (z [f 84 1 10] [4,5,10,12,84] (.both (z [⟨some 83,none,.load (.ld 9 true),[.t 12]⟩] [4,5,10,83,84] (z [⟨none,none,.loud (.st 1),[.t 84,.c (.bool true)]⟩] [4,5,10,83] (z [f 85 2 10] [4,5,10,83,85] (z [s 9 85 83] [4,5,10] (.ops [] [4,5,10]))))) (.both (z [⟨none,none,.loud (.st 1),[.t 84,.c (.bool true)]⟩] [4,5,10,12] (z [⟨some 83,none,.load (.ld 9 true),[.t 12]⟩] [4,5,10,83] (z [f 85 2 10] [4,5,10,83,85] (z [s 9 85 83] [4,5,10] (.ops [] [4,5,10]))))) (.top)))) (z [⟨some 86,none,.load (.ld 12 true),[.t 10]⟩,p 87 (.build [(.int .i64 0),(.int .i64 0),.nils] []) [],s 12 4 86,s 3 5 87] [4,5] .ret)
def t9_73:BC := .seq (z [m 73 13,m 74 1,g 75 35 [.t 73,.t 74],m 15 75] [4,5,10,12,15] (z [m 76 15,c 77 .gtr 76 0] [4,5,10,12,15,77] (.cond (.t 77) (z [p 78 (.build [.nils,(.bool false),(.int .i64 0),.nils,(.int .u32 0),(.bool false),(.int .u32 0),(.bool false),(.int .u32 0),(.bool false),.nils,.nils] []) [],m 79 15,u 80 (.conv .u8) 79,⟨some 81,none,.alloc (.mksl 1 1),[.t 80]⟩,g 82 32 [.c (.int .i64 3),.t 81],s 12 4 78,s 3 5 82] [4,5] .ret) .skip))) t9_84
def t9_67:BC := .seq (z [f 67 11 10,l 68 1 67,u 69 .len 68,c 70 .eql 69 0] [1,4,5,10,12,13,70] (.cond (.t 70) (z [⟨some 71,none,.load (.ld 12 true),[.t 10]⟩,p 72 (.build [(.int .i64 0),(.int .i64 0),.nils] []) [],s 12 4 71,s 3 5 72] [4,5] .ret) .skip)) t9_73
def t9_58:BC := .seq (z [m 58 9,g 59 33 [.t 58],m 57 59,e 60 0 57,e 61 1 57,f 62 11 10,s 1 62 60,m 11 61] [1,4,5,10,11,12,13] (z [m 63 11,u 64 .not 63] [1,4,5,10,12,13,64] (.cond (.t 64) (z [p 65 (.build [.nils,(.bool false),(.int .i64 0),.nils,(.int .u32 0),(.bool false),(.int .u32 0),(.bool false),(.int .u32 0),(.bool false),.nils,.nils] []) [],g 66 32 [.c (.int .i64 10),.c .nils],s 12 4 65,s 3 5 66] [4,5] .ret) .skip))) t9_67
def t9_46:BC:=z [m 46 8,m 47 1,g 48 34 [.t 46,.t 47],m 45 48,e 49 0 45,e 50 1 45,e 51 2 45,⟨some 12,none,.alloc (.alloc [(.int .i64 0),.nils,(.int .u32 0),(.bool false),(.int .u32 0),(.bool false),(.int .u32 0),(.bool false),.nils]),[]⟩,⟨some 14,none,.alloc (.alloc [(.int .i64 0),(.int .i64 0),.nils]),[]⟩,s 9 12 49,m 13 50,s 3 14 51] [1,4,5,9,10,12,13,14] (.seq (z [f 52 0 14,l 53 1 52,c 54 .neq 53 0] [1,4,5,9,10,12,13,14,54] (.cond (.t 54) (.seq (z [p 55 (.build [.nils,(.bool false),(.int .i64 0),.nils,(.int .u32 0),(.bool false),(.int .u32 0),(.bool false),(.int .u32 0),(.bool false),.nils,.nils] []) []] [4,5,14,55] (.both (z [⟨some 56,none,.load (.ld 3 true),[.t 14]⟩] [4,5,55,56] (z [s 12 4 55] [4,5,56] (z [s 3 5 56] [4,5] (.ops [] [4,5])))) (.both (z [s 12 4 55] [4,5,14] (z [⟨some 56,none,.load (.ld 3 true),[.t 14]⟩] [4,5,56] (z [s 3 5 56] [4,5] (.ops [] [4,5])))) (.top)))) .ret) .skip)) t9_58)
def t9_10:BC:=z [⟨some 10,none,.alloc (.alloc [.nils,(.bool false),(.int .i64 0),.nils,(.int .u32 0),(.bool false),(.int .u32 0),(.bool false),(.int .u32 0),(.bool false),.nils,.nils]),[]⟩] [1,4,5,7,8,9,10] (z [k 11 (.bool false)] [1,4,5,7,8,9,10] (.seq (z [m 36 7,g 37 33 [.t 36],m 35 37,e 38 0 35,e 39 1 35,f 40 0 10,s 1 40 38,m 11 39] [1,4,5,8,9,10,11] (z [m 41 11,u 42 .not 41] [1,4,5,8,9,10,42] (.cond (.t 42) (z [p 43 (.build [.nils,(.bool false),(.int .i64 0),.nils,(.int .u32 0),(.bool false),(.int .u32 0),(.bool false),(.int .u32 0),(.bool false),.nils,.nils] []) [],g 44 32 [.c (.int .i64 10),.c .nils],s 12 4 43,s 3 5 44] [4,5] .ret) .skip))) t9_46))
def b9:BC:=z [⟨some 4,none,.alloc (.alloc [.nils,(.bool false),(.int .i64 0),.nils,(.int .u32 0),(.bool false),(.int .u32 0),(.bool false),(.int .u32 0),(.bool false),.nils,.nils]),[]⟩,⟨some 5,none,.alloc (.alloc [(.int .i64 0),(.int .i64 0),.nils]),[]⟩] [0,1,4,5] (z [m 16 0,g 17 27 [.t 16],m 6 17] [1,4,5,6] (z [m 18 6,m 19 6,g 20 29 [.t 19],g 21 28 [.t 18,.t 20],m 7 21] [1,4,5,6,7] (z [m 22 6,m 23 6,g 24 29 [.t 23],g 25 28 [.t 22,.t 24],m 8 25] [1,4,5,6,7,8] (z [m 26 6,m 27 6,g 28 30 [.t 27],g 29 28 [.t 26,.t 28],m 9 29] [1,4,5,6,7,8,9] (.seq (z [m 30 6,g 31 31 [.t 30],u 32 .not 31] [1,4,5,7,8,9,32] (.cond (.t 32) (z [p 33 (.build [.nils,(.bool false),(.int .i64 0),.nils,(.int .u32 0),(.bool false),(.int .u32 0),(.bool false),(.int .u32 0),(.bool false),.nils,.nils] []) [],g 34 32 [.c (.int .i64 1),.c .nils],s 12 4 33,s 3 5 34] [4,5] .ret) .skip)) t9_10)))))
def F9:Fn Tryz.prog 9:=Fn.mkX false b9 [.c 4 12 true,.c 5 3 true] 88 Tryz.f9 _ Tryz.func9 (by decide) rfl Tryz.ntmps9 (by kernel_rfl) (by kernel_rfl)
def t35_13:BC := .seq (z [m 13 5,u 14 .len 13,j 15 0] [0,13,14,15] (.block 0 (.loop [0,13,14,15] (z [b 16 .lss 15 14] [0,13,14,15,16] (.seq (.cond (.t 16) .skip (.exit 0)) (.seq (.block 1 (z [x 17 1 13 15,l 18 1 17,m 7 18] [0,7,13,14,15] (z [m 19 0,m 20 7,g 21 66 [.t 19,.t 20],u 22 .not 21] [0,7,13,14,15,22] (.cond (.t 22) (z [m 23 7,m 4 23] [4] .ret) .skip)))) (.ops [c 24 .add 15 1,m 15 24] [0,13,14,15]))))))) (z [j 4 0] [4] .ret)
def b35:BC:=z [j 4 0] [0,1] (z [⟨some 8,none,.alloc (.mksl 1 3),[.c (.int .i64 1),.c (.int .i64 2),.c (.int .i64 3)]⟩,m 5 8] [0,1,5] (.seq (z [m 9 1] [0,5,9] (.cond (.t 9) (.ops [m 10 5,⟨some 11,none,.alloc (.mksl 1 1),[.c (.int .i64 5)]⟩,⟨some 12,none,.loud (.app 1 8),[.t 10,.t 11]⟩,m 5 12] [0,5]) .skip)) t35_13))
def F35:Fn Tryz.prog 35:=Fn.mkX false b35 [.t 4] 25 Tryz.f35 _ Tryz.func35 (by decide) rfl Tryz.ntmps35 (by kernel_rfl) (by kernel_rfl)
end Go.Am.Ts2
namespace Go.Am
open Go.Proofs Go.Sort
theorem c90 (l:List Int) (hl:l.length≤1000000) (x:Int):Pur Tryz.prog 90 [.sl 1 (l.map cI),.int .i64 x] (.int .i64 (if x ∈ l then (l.idxOf x:Int) else -1)):=by
 refine zh Tst.F90 (by simp [Tst.F90,Fn.mkX]) fun σ => ?_
 simp only [Tst.F90,Fn.mkX,Tst.b90]
 simp only [↓vcPre,↓z0,↓reduceIte,vcPost,vcStd,Nat.reduceEqDiff,reduceCtorEq,Nat.reduceAdd,Nat.reduceLeDiff,Int.reduceLT,Int.reduceLE,↓u_setN]
 have wl:IntKind.i64.wrap ((l.length:Nat):Int)=(l.length:Int):=z7 (by unfold I64;omega)
 refine LoopQ.inv (S:=Nat) (fun k=>[(0,.sl 1 (l.map cI)),(1,.int .i64 x),(7,.int .i64 (l.length:Int)),(8,.int .i64 (k:Int))]) (fun _=>σ) (fun k=>k≤l.length∧x ∉ l.take k) (fun k=>l.length+1 - k) 0 rfl (Store.sub_refl _) ⟨by omega,by simp⟩ ?_
 rintro k ⟨hk,hx⟩
 simp only [↓vcPre,↓z0,↓reduceIte,vcPost,vcStd,Nat.reduceEqDiff,reduceCtorEq,Nat.reduceAdd,Nat.reduceLeDiff,Int.reduceLT,Int.reduceLE,↓u_setN]
 refine ⟨fun c1 => ?_,fun c1 => ?_⟩
 ·have ek:IntKind.i64.wrap ((k:Int)+1)=((k+1:Nat):Int):=by rw [z7 (by unfold I64;omega)];omega
  simp only [cI,ek,↓vcPre,↓z0,↓reduceIte,vcPost,vcStd,Nat.reduceEqDiff,reduceCtorEq,Nat.reduceAdd,Nat.reduceLeDiff,Int.reduceLT,Int.reduceLE,↓u_setN]
  refine ⟨c1,fun e => ?_,fun e => ?_⟩
  ·have hm:x ∈ l:=by rw [e];exact List.getElem_mem c1
   rw [if_pos hm]
   have hsp:l=l.take k++(l[k]::l.drop (k+1)):=by rw [←List.drop_eq_getElem_cons c1,List.take_append_drop]
   have:l.idxOf x=k:=by
    rw [hsp,List.idxOf_append,if_neg hx,←e,List.idxOf_cons_self]
    simp;omega
   omega
  ·refine NextQ.to (k+1) rfl (Store.sub_refl _) (by omega) ⟨by omega,?_⟩
   rw [List.take_succ_eq_append_getElem c1,List.mem_append,List.mem_singleton]
   rintro (h | h)
   ·exact hx h
   ·exact e h
 ·have:k=l.length:=by omega
  subst this
  rw [List.take_length] at hx
  rw [if_neg hx]
theorem c66 (l:List Int) (hl:l.length≤1000000) (x:Int):Pur Tryz.prog 66 [.sl 1 (l.map cI),.int .i64 x] (.bool (decide (x ∈ l))):=by
 refine zh Tst.F66 (by simp [Tst.F66,Fn.mkX]) fun σ => ?_
 simp only [Tst.F66,Fn.mkX,Tst.b66]
 simp only [↓vcPre,↓z0,↓reduceIte,vcPost,vcStd,Nat.reduceEqDiff,reduceCtorEq,Nat.reduceAdd,Nat.reduceLeDiff,Int.reduceLT,Int.reduceLE,↓u_setN]
 refine (c90 l hl x).Q ?_
 simp only [↓vcPre,↓z0,↓reduceIte,vcPost,vcStd,Nat.reduceEqDiff,reduceCtorEq,Nat.reduceAdd,Nat.reduceLeDiff,Int.reduceLT,Int.reduceLE,↓u_setN]
 by_cases h:x ∈ l
 ·rw [if_pos h];simp [h]
 ·rw [if_neg h];simp [h]
def mustF (inner:Bool):List Int:=[1,2,3]++(if inner then [5] else [])
def lacksF (ty:List Int) (inner:Bool):Int:=((mustF inner).find? (fun k => !decide (k ∈ ty))).getD 0
theorem z1i {ty:List Int} (hl:ty.length≤1000000) {inner:Bool} {σ t:Store} {v:AV} (ho:Own 1 σ ((mustF inner).map cI) v t) (hs:Store.sub σ t) (E:List (Nat×AV)) (hE:E=[]∨∃ b,E=[(9,.bool b)]) {n rr:Env→Store→Prop} {xx:Nat→Env→Store→Prop} (hr:∀ t',Store.sub σ t'→rr [(4,.int .i64 (lacksF ty inner))] t') :
 bwp Tryz.prog Ts2.t35_13 ([(0,.sl 1 (ty.map cI)),(5,v)]++E) t n rr xx:=by
 simp only [Ts2.t35_13]
 have hr2:=Rd.own ho
 have hm:(mustF inner).length≤4:=by unfold mustF;cases inner <;> simp
 have lv:pv .len [v]=some (.int .i64 ((mustF inner).length:Int)):=by rw [hr2.2];simp
 have wl:IntKind.i64.wrap (((mustF inner).length:Nat):Int)=((mustF inner).length:Int):=z7 (by unfold I64;omega)
 rcases hE with rfl | ⟨b,rfl⟩
 all_goals
  simp only [lv,↓vcPre,↓z0,↓reduceIte,vcPost,vcStd,Nat.reduceEqDiff,reduceCtorEq,Nat.reduceAdd,Nat.reduceLeDiff,Int.reduceLT,Int.reduceLE,↓u_setN]
  refine LoopQ.inv (S:=Nat) (fun k=>[(0,.sl 1 (ty.map cI)),(13,v),(14,.int .i64 ((mustF inner).length:Int)),(15,.int .i64 (k:Int))]) (fun _=>t) (fun k=>k≤(mustF inner).length∧∀ x ∈ (mustF inner).take k,x ∈ ty) (fun k=>(mustF inner).length+1 - k) 0 rfl (Store.sub_refl _) ⟨by omega,by simp⟩ ?_
  rintro k ⟨hk,hx⟩
  simp only [↓vcPre,↓z0,↓reduceIte,vcPost,vcStd,Nat.reduceEqDiff,reduceCtorEq,Nat.reduceAdd,Nat.reduceLeDiff,Int.reduceLT,Int.reduceLE,↓u_setN]
  refine ⟨fun c1 => ?_,fun c1 => ?_⟩
  ·have ek:IntKind.i64.wrap ((k:Int)+1)=((k+1:Nat):Int):=by rw [z7 (by unfold I64;omega)];omega
   obtain ⟨p,hp,hp2⟩:=hr2.at (k:=k) (by simp;omega)
   have r1:=hp2 t (Store.sub_refl _) 1
   simp only [List.getElem_map] at r1
   have hkl:k<(mustF inner).length:=by omega
   simp only [hp,r1,cI,↓vcPre,↓z0,↓reduceIte,vcPost,vcStd,Nat.reduceEqDiff,reduceCtorEq,Nat.reduceAdd,Nat.reduceLeDiff,Int.reduceLT,Int.reduceLE,↓u_setN]
   refine (c66 ty hl _).Q ?_
   simp only [ek,↓vcPre,↓z0,↓reduceIte,vcPost,vcStd,Nat.reduceEqDiff,reduceCtorEq,Nat.reduceAdd,Nat.reduceLeDiff,Int.reduceLT,Int.reduceLE,↓u_setN]
   refine ⟨fun c2 => ?_,fun c2 => ?_⟩
   ·have e:lacksF ty inner=(mustF inner)[k]:=by
     unfold lacksF
     have hsp:mustF inner=(mustF inner).take k++((mustF inner)[k]::(mustF inner).drop (k+1)):=by rw [←List.drop_eq_getElem_cons hkl,List.take_append_drop]
     have h1:((mustF inner).take k).find? (fun k => !decide (k ∈ ty))=none:=by
      rw [List.find?_eq_none]
      intro x hx2
      simp [hx x hx2]
     rw [show (mustF inner).find? (fun k => !decide (k ∈ ty))=some (mustF inner)[k] by
      conv=>lhs;rw [hsp]
      rw [List.find?_append,h1,List.find?_cons]
      simp [c2]]
     rfl
    rw [←e]
    exact hr _ hs
   ·refine NextQ.to (k+1) rfl (Store.sub_refl _) (by omega) ⟨by omega,?_⟩
    intro x hx2
    rw [List.take_succ_eq_append_getElem hkl,List.mem_append,List.mem_singleton] at hx2
    rcases hx2 with h | rfl
    ·exact hx x h
    ·exact c2
  ·have e:lacksF ty inner=0:=by
    unfold lacksF
    rw [List.find?_eq_none.2]
    ·rfl
    ·intro x hx2
     rw [List.take_of_length_le (by omega)] at hx
     simp [hx x hx2]
   rw [←e]
   exact hr _ hs
theorem c35 (ty:List Int) (hl:ty.length≤1000000) (inner:Bool):Pur Tryz.prog 35 [.sl 1 (ty.map cI),.bool inner] (.int .i64 (lacksF ty inner)):=by
 refine zh Ts2.F35 (by simp [Ts2.F35,Fn.mkX]) fun σ => ?_
 simp only [Ts2.F35,Fn.mkX,Ts2.b35]
 simp only [z5h,↓vcPre,↓z0,↓reduceIte,vcPost,vcStd,Nat.reduceEqDiff,reduceCtorEq,Nat.reduceAdd,Nat.reduceLeDiff,Int.reduceLT,Int.reduceLE,↓u_setN]
 refine AllocQ.i0 fun d hd => ?_
 have hD:=Store.sub_set σ d (.arr 1 [[.int .i64 1],[.int .i64 2],[.int .i64 3]]) hd
 have oD:Own 1 σ (([1,2,3]:List Int).map cI) (.os d 1 0 3) (σ.set d (.arr 1 [[.int .i64 1],[.int .i64 2],[.int .i64 3]])):=Own.new (L:=[[.int .i64 1],[.int .i64 2],[.int .i64 3]]) hd
 generalize σ.set d (.arr 1 [[.int .i64 1],[.int .i64 2],[.int .i64 3]])=D at hD oD ⊢
 cases inner with
 | false =>
   simp only [↓vcPre,↓z0,↓reduceIte,vcPost,vcStd,Nat.reduceEqDiff,reduceCtorEq,Nat.reduceAdd,Nat.reduceLeDiff,Int.reduceLT,Int.reduceLE,↓u_setN]
   exact z1i (inner:=false) hl oD hD [(9,.bool false)] (.inr ⟨_,rfl⟩) fun t' h=>⟨rfl,h⟩
 | true =>
   simp only [↓vcPre,↓z0,↓reduceIte,vcPost,vcStd,Nat.reduceEqDiff,reduceCtorEq,Nat.reduceAdd,Nat.reduceLeDiff,Int.reduceLT,Int.reduceLE,↓u_setN]
   refine AllocQ.i0 fun q hq => ?_
   simp only [↓vcPre,↓z0,↓reduceIte,vcPost,vcStd,Nat.reduceEqDiff,reduceCtorEq,Nat.reduceAdd,Nat.reduceLeDiff,Int.reduceLT,Int.reduceLE,↓u_setN]
   have hsq:=Store.sub_set D q (.arr 1 [[.int .i64 5]]) hq
   refine Own.appM (τ:=σ) (Store.sub_trans hD hsq) (oD.mono hsq) (zo (Store.set_same _ _ _) rfl) (by simp) fun v1 u1 hu1 ho1 => ?_
   exact z1i (inner:=true) hl ho1 hu1 [] (.inl rfl) fun t' h=>⟨rfl,h⟩
theorem c32 (n:Int) (v:AV) (hv:v.isTup=false∧v.cells=[v]):Pur Tryz.prog 32 [.int .i64 n,v] (.agg [.int .i64 3,.int .i64 n,v]):=by
 refine zh Tst.F32 (by simp [Tst.F32,Fn.mkX]) fun σ => ?_
 simp only [Tst.F32,Fn.mkX,Tst.b32]
 simp only [↓vcPre,↓z0,↓reduceIte,vcPost,vcStd,Nat.reduceEqDiff,reduceCtorEq,Nat.reduceAdd,Nat.reduceLeDiff,Int.reduceLT,Int.reduceLE,↓u_setN]
 refine AllocQ.i0 fun i hi => ?_
 simp only [hv.1,hv.2,↓vcPre,↓z0,↓reduceIte,vcPost,vcStd,Nat.reduceEqDiff,reduceCtorEq,Nat.reduceAdd,Nat.reduceLeDiff,Int.reduceLT,Int.reduceLE,↓u_setN]
 exact z5 (Store.sub_set _ _ _ hi) hi
end Go.Am
namespace Go.Am
open Go.Proofs Go.Sort
theorem Own.addG {esz e2:Nat} {τ s s':Store} {L M:List (List AV)} {v w:AV} (h:Own esz τ L v s) (hτ:Store.sub τ s) (hs:Store.sub s s') (hw:Own e2 s M w s'):∃ τ',Store.sub τ τ'∧Store.sub τ' s'∧Own esz τ' L v s'∧Rd e2 τ' M w:=by
 rcases hw with ⟨rfl,rfl⟩ | ⟨g,rfl,hg,hh⟩
 ·exact ⟨τ,Store.sub_refl _,Store.sub_trans hτ hs,h.mono hs,Rd.nils⟩
 ·refine ⟨τ.set g (.arr e2 M),Store.sub_set _ _ _ (zi hτ hg),fun j o hj => ?_,?_,Rd.os (Store.set_same _ _ _)⟩
  ·by_cases e:j=g
   ·subst e;rw [Store.set_same] at hj;cases hj;exact hh
   ·rw [Store.set_ne _ _ e] at hj;exact hs _ _ (hτ _ _ hj)
  ·rcases h with h | ⟨k,a,b,c⟩
   ·exact .inl h
   ·have hkg:¬ k=g:=fun e=>by rw [e,hg] at c;cases c
    exact .inr ⟨k,a,by rw [Store.set_ne _ _ hkg];exact b,hs _ _ c⟩
theorem z1l (a:At) (h8:a.cms.length≤100000) {T s:Store} {i:Nat} {L:List Int} {v:AV} (hTi:T i=some (boxC a)) (hs:Store.sub T s) (h:Own 1 T (L.map cB) v s) (hL:L.length≤9000000) {n r:Env→Store→Prop} {x:Nat→Env→Store→Prop}
 (hr:∀ v' s',Store.sub T s'→Own 1 T ((L++(if a.cms=[] then [] else oneA 192 8 (encW a.cms))).map cB) v' s'→r [(2,v')] s'):bwp Tryz.prog Tsj.t12_39 [(1,.ptr i 0),(3,v)] s n r x:=by
 simp only [Tsj.t12_39]
 have hi:=hs _ _ hTi
 simp only [hi,boxC,↓vcPre,↓z0,↓reduceIte,vcPost,vcStd,Nat.reduceEqDiff,reduceCtorEq,Nat.reduceAdd,Nat.reduceLeDiff,Int.reduceLT,Int.reduceLE,↓u_setN]
 have hc:=zx a.cms
 refine ⟨fun c1 => ?_,fun c1 => ?_⟩
 ·obtain ⟨τ1,p1,p2,p3,p4⟩:∃ τ1,Store.sub T τ1∧Store.sub τ1 s∧Own 1 T (L.map cB) v s∧∀ t,Store.sub τ1 t→Own 1 T (L.map cB) v t:=⟨s,hs,Store.sub_refl _,h,fun t ht=>h.mono ht⟩
  refine LoopQ.inv (S:=Nat×AV×Store) (fun q=>[(1,.ptr i 0),(3,v),(4,q.2.1),(5,.int .i64 (q.1:Int))]) (fun q=>q.2.2) (fun q=>q.1≤a.cms.length∧Store.sub s q.2.2∧Own 1 s ((encW (a.cms.take q.1)).map cB) q.2.1 q.2.2) (fun q=>a.cms.length+1 - q.1) (0,.nils,s) rfl (Store.sub_refl _) ⟨by simp only;omega,Store.sub_refl _,by simpa [encW] using Own.nil⟩ ?_
  rintro ⟨k,w,s1⟩ ⟨hk,hs1,ho1⟩
  simp only at hk hs1 ho1
  have hle:=zx (a.cms.take k)
  rw [List.length_take] at hle
  simp only [hs1 _ _ hi,boxC,↓vcPre,↓z0,↓reduceIte,vcPost,vcStd,Nat.reduceEqDiff,reduceCtorEq,Nat.reduceAdd,Nat.reduceLeDiff,Int.reduceLT,Int.reduceLE,↓u_setN]
  refine ⟨fun d1 => ?_,fun d1 => ?_⟩
  ·have ek:IntKind.i64.wrap ((k:Int)+1)=((k+1:Nat):Int):=by rw [z7 (by unfold I64;omega)];omega
   refine ⟨d1,by simp [cU],?_⟩
   simp only [cU,↓vcPre,↓z0,↓reduceIte,vcPost,vcStd,Nat.reduceEqDiff,reduceCtorEq,Nat.reduceAdd,Nat.reduceLeDiff,Int.reduceLT,Int.reduceLE,↓u_setN]
   refine (s38 (Rd.own ho1) (by omega) _).Q ?_
   rintro r' s2 ⟨k1,k2⟩
   simp only [↓vcPre,↓z0,↓reduceIte,vcPost,vcStd,Nat.reduceEqDiff,reduceCtorEq,Nat.reduceAdd,Nat.reduceLeDiff,Int.reduceLT,Int.reduceLE,↓u_setN]
   rw [ek]
   refine NextQ.to (k+1,r',s2) rfl (Store.sub_refl _) (by simp only;omega) ⟨by simp only;omega,Store.sub_trans hs1 k1,?_⟩
   simp only
   rw [vw _ _ d1]
   exact k2.weak hs1
  ·have e:a.cms.take k=a.cms:=List.take_of_length_le (by omega)
   rw [e] at ho1
   obtain ⟨τ',q1,q2,q3,q4⟩:=Own.addG h hs hs1 ho1
   refine (s40 q2 q3 q4 (by omega) (by omega) 192 8 (by decide) (by decide)).Q ?_
   rintro r' s2 ⟨k1,k2⟩
   simp only [↓vcPre,↓z0,↓reduceIte,vcPost,vcStd,Nat.reduceEqDiff,reduceCtorEq,Nat.reduceAdd,Nat.reduceLeDiff,Int.reduceLT,Int.reduceLE,↓u_setN]
   have:=hr r' s2 (Store.sub_trans q1 k1)
   rw [if_neg (fun e=>by rw [e] at c1;simp at c1)] at this
   exact this (k2.weak q1)
 ·have:=hr v s hs
  rw [if_pos (List.length_eq_zero_iff.1 (by omega)),List.append_nil] at this
  exact this h
theorem z1k (a:At) (h8:a.cms.length≤100000) {T s:Store} {i:Nat} {L:List Int} {v:AV} (hTi:T i=some (boxC a)) (hs:Store.sub T s) (h:Own 1 T (L.map cB) v s) (hL:L.length≤8000000) {n r:Env→Store→Prop} {x:Nat→Env→Store→Prop}
 (hr:∀ v' s',Store.sub T s'→Own 1 T ((L++(if a.atm then oneA 64 6 [] else [])++(if a.cms=[] then [] else oneA 192 8 (encW a.cms))).map cB) v' s'→r [(2,v')] s'):bwp Tryz.prog Tsj.t12_35 [(1,.ptr i 0),(3,v)] s n r x:=by
 simp only [Tsj.t12_35]
 have hi:=hs _ _ hTi
 cases g:a.atm
 ·simp only [hi,boxC,g,↓vcPre,↓z0,↓reduceIte,vcPost,vcStd,Nat.reduceEqDiff,reduceCtorEq,Nat.reduceAdd,Nat.reduceLeDiff,Int.reduceLT,Int.reduceLE,↓u_setN]
  refine z1l a h8 hTi hs h (by omega) fun v' s' hs' ho' => ?_
  have:=hr v' s' hs'
  rw [g] at this
  exact this (by simpa using ho')
 ·simp only [hi,boxC,g,↓vcPre,↓z0,↓reduceIte,vcPost,vcStd,Nat.reduceEqDiff,reduceCtorEq,Nat.reduceAdd,Nat.reduceLeDiff,Int.reduceLT,Int.reduceLE,↓u_setN]
  refine (s40 hs h (M:=[]) Rd.nils (by omega) (by simp) 64 6 (by decide) (by decide)).Q ?_
  rintro r' s1 ⟨k1,k2⟩
  simp only [↓vcPre,↓z0,↓reduceIte,vcPost,vcStd,Nat.reduceEqDiff,reduceCtorEq,Nat.reduceAdd,Nat.reduceLeDiff,Int.reduceLT,Int.reduceLE,↓u_setN]
  refine z1l a h8 hTi k1 k2 (by have:=xd 64 6 [];simp at this ⊢;omega) fun v' s' hs' ho' => ?_
  have:=hr v' s' hs'
  rw [g] at this
  exact this ho'
theorem z1j (a:At) (h8:a.cms.length≤100000) {T s:Store} {i:Nat} {L:List Int} {v:AV} (hTi:T i=some (boxC a)) (hs:Store.sub T s) (h:Own 1 T (L.map cB) v s) (hL:L.length≤7000000) {n r:Env→Store→Prop} {x:Nat→Env→Store→Prop}
 (hr:∀ v' s',Store.sub T s'→Own 1 T ((L++(if a.hp then oneA 64 5 (b4 a.prf) else [])++(if a.atm then oneA 64 6 [] else [])++(if a.cms=[] then [] else oneA 192 8 (encW a.cms))).map cB) v' s'→r [(2,v')] s'):bwp Tryz.prog Tsj.t12_28 [(1,.ptr i 0),(3,v)] s n r x:=by
 simp only [Tsj.t12_28]
 have hi:=hs _ _ hTi
 cases g:a.hp
 ·simp only [hi,boxC,g,↓vcPre,↓z0,↓reduceIte,vcPost,vcStd,Nat.reduceEqDiff,reduceCtorEq,Nat.reduceAdd,Nat.reduceLeDiff,Int.reduceLT,Int.reduceLE,↓u_setN]
  refine z1k a h8 hTi hs h (by omega) fun v' s' hs' ho' => ?_
  have:=hr v' s' hs'
  rw [g] at this
  exact this (by simpa using ho')
 ·have hTi5:=(hs) _ _ hTi
  simp only [hTi5,boxC,g,↓vcPre,↓z0,↓reduceIte,vcPost,vcStd,Nat.reduceEqDiff,reduceCtorEq,Nat.reduceAdd,Nat.reduceLeDiff,Int.reduceLT,Int.reduceLE,↓u_setN]
  refine (s38 (s:=s) (L:=[]) Rd.nils (by simp) a.prf).Q ?_
  rintro r s' ⟨k1,k2⟩
  rw [List.nil_append] at k2
  obtain ⟨τ',q1,q2,q3,q4⟩:=Own.addG h (hs) k1 k2
  simp only [↓vcPre,↓z0,↓reduceIte,vcPost,vcStd,Nat.reduceEqDiff,reduceCtorEq,Nat.reduceAdd,Nat.reduceLeDiff,Int.reduceLT,Int.reduceLE,↓u_setN]
  refine (s40 q2 q3 q4 (by omega) (by rw [x4];omega) 64 5 (by decide) (by decide)).Q ?_
  rintro r s1 ⟨h1,k3⟩
  have h1:=Store.sub_trans q1 h1
  have k3:=Own.weak k3 q1
  simp only [↓vcPre,↓z0,↓reduceIte,vcPost,vcStd,Nat.reduceEqDiff,reduceCtorEq,Nat.reduceAdd,Nat.reduceLeDiff,Int.reduceLT,Int.reduceLE,↓u_setN]
  refine z1k a h8 hTi h1 k3 (by have:=vn 64 5 (b4 a.prf) L;rw [x4] at this;omega) fun v' s' hs' ho' => ?_
  have:=hr v' s' hs'
  rw [g] at this
  exact this ho'
theorem z6e (a:At) (h8:a.cms.length≤100000) {T s:Store} {i:Nat} {L:List Int} {v:AV} (hTi:T i=some (boxC a)) (hs:Store.sub T s) (h:Own 1 T (L.map cB) v s) (hL:L.length≤6000000) {n r:Env→Store→Prop} {x:Nat→Env→Store→Prop}
 (hr:∀ v' s',Store.sub T s'→Own 1 T ((L++(if a.hm then oneA 128 4 (b4 a.med) else [])++(if a.hp then oneA 64 5 (b4 a.prf) else [])++(if a.atm then oneA 64 6 [] else [])++(if a.cms=[] then [] else oneA 192 8 (encW a.cms))).map cB) v' s'→r [(2,v')] s'):bwp Tryz.prog Tsj.t12_21 [(1,.ptr i 0),(3,v)] s n r x:=by
 simp only [Tsj.t12_21]
 have hi:=hs _ _ hTi
 cases g:a.hm
 ·simp only [hi,boxC,g,↓vcPre,↓z0,↓reduceIte,vcPost,vcStd,Nat.reduceEqDiff,reduceCtorEq,Nat.reduceAdd,Nat.reduceLeDiff,Int.reduceLT,Int.reduceLE,↓u_setN]
  refine z1j a h8 hTi hs h (by omega) fun v' s' hs' ho' => ?_
  have:=hr v' s' hs'
  rw [g] at this
  exact this (by simpa using ho')
 ·have hTi4:=(hs) _ _ hTi
  simp only [hTi4,boxC,g,↓vcPre,↓z0,↓reduceIte,vcPost,vcStd,Nat.reduceEqDiff,reduceCtorEq,Nat.reduceAdd,Nat.reduceLeDiff,Int.reduceLT,Int.reduceLE,↓u_setN]
  refine (s38 (s:=s) (L:=[]) Rd.nils (by simp) a.med).Q ?_
  rintro r s' ⟨k1,k2⟩
  rw [List.nil_append] at k2
  obtain ⟨τ',q1,q2,q3,q4⟩:=Own.addG h (hs) k1 k2
  simp only [↓vcPre,↓z0,↓reduceIte,vcPost,vcStd,Nat.reduceEqDiff,reduceCtorEq,Nat.reduceAdd,Nat.reduceLeDiff,Int.reduceLT,Int.reduceLE,↓u_setN]
  refine (s40 q2 q3 q4 (by omega) (by rw [x4];omega) 128 4 (by decide) (by decide)).Q ?_
  rintro r s1 ⟨h1,k3⟩
  have h1:=Store.sub_trans q1 h1
  have k3:=Own.weak k3 q1
  simp only [↓vcPre,↓z0,↓reduceIte,vcPost,vcStd,Nat.reduceEqDiff,reduceCtorEq,Nat.reduceAdd,Nat.reduceLeDiff,Int.reduceLT,Int.reduceLE,↓u_setN]
  refine z1j a h8 hTi h1 k3 (by have:=vn 128 4 (b4 a.med) L;rw [x4] at this;omega) fun v' s' hs' ho' => ?_
  have:=hr v' s' hs'
  rw [g] at this
  exact this ho'
def encOk (a:At):Prop:=a.path.length≤1000∧(∀ s ∈ a.path,s.ls.length≤1000)∧a.cms.length≤1000
theorem z4c:∀ (m:List Seg),(∀ s ∈ m,s.ls.length≤1000)→(encPath m).length≤4002*m.length:=by
 intro m
 induction m with
 | nil=>intro _;simp [encPath]
 | cons s r ih =>
   intro h
   have h1:=ih fun x hx=>h x (by simp [hx])
   have h2:=h s (by simp)
   have h3:=zx s.ls
   simp only [encPath,List.flatMap_cons,List.length_append,encSeg,List.length_cons,List.length_nil] at *
   omega
theorem s12 (a:At) (ha:encOk a) (σ:Store):ACalls Tryz.prog 12 [.agg a.c] σ (fun r s=>Store.sub σ s∧Own 1 σ ((encA a).map cB) r s):=by
 refine zd Tsj.F12 (by simp [Tsj.F12,Fn.mkX]) ?_
 simp only [Tsj.F12,Fn.mkX,Tsj.b12]
 have e9:∀ x:At,x.c.length=9:=fun _=>rfl
 obtain ⟨a1,a2,a3⟩:=ha
 have hpl:=z4c a.path a2
 simp only [↓vcPre,↓z0,↓reduceIte,vcPost,vcStd,Nat.reduceEqDiff,reduceCtorEq,Nat.reduceAdd,Nat.reduceLeDiff,Int.reduceLT,Int.reduceLE,↓u_setN]
 refine AllocQ.i0 fun i hi => ?_
 have hsb:=Store.sub_set σ i (.box a.c) hi
 have hTi:(σ.set i (.box a.c)) i=some (boxC a):=Store.set_same _ _ _
 change bops _ _ _ (σ.set i (.box a.c)) _
 generalize σ.set i (.box a.c)=T at hsb hTi ⊢
 simp only [hTi,boxC,↓vcPre,↓z0,↓reduceIte,vcPost,vcStd,Nat.reduceEqDiff,reduceCtorEq,Nat.reduceAdd,Nat.reduceLeDiff,Int.reduceLT,Int.reduceLE,↓u_setN]
 refine AllocQ.i0 fun b hb => ?_
 simp only [↓vcPre,↓z0,↓reduceIte,vcPost,vcStd,Nat.reduceEqDiff,reduceCtorEq,Nat.reduceAdd,Nat.reduceLeDiff,Int.reduceLT,Int.reduceLE,↓u_setN]
 have hTb:=Store.sub_set T b (.arr 1 [cB (IntKind.u8.wrap a.org)]) hb
 refine (s40 (τ:=T.set b (.arr 1 [cB (IntKind.u8.wrap a.org)])) (L:=[]) (M:=[IntKind.u8.wrap a.org]) (Store.sub_refl _) Own.nil (Rd.os (Store.set_same _ _ _)) (by simp) (by simp) 64 1 (by decide) (by decide)).Q ?_
 rintro r s1 ⟨h1,m1⟩
 have h1:=Store.sub_trans hTb h1
 have m1:=Own.weak m1 hTb
 have l1:=vn 64 1 [IntKind.u8.wrap a.org] []
 simp only [List.length_nil,List.length_cons] at l1
 simp only [h1 _ _ hTi,boxC,↓vcPre,↓z0,↓reduceIte,vcPost,vcStd,Nat.reduceEqDiff,reduceCtorEq,Nat.reduceAdd,Nat.reduceLeDiff,Int.reduceLT,Int.reduceLE,↓u_setN]
 refine (c41 a.path (by omega) a2).Q ?_
 simp only [↓vcPre,↓z0,↓reduceIte,vcPost,vcStd,Nat.reduceEqDiff,reduceCtorEq,Nat.reduceAdd,Nat.reduceLeDiff,Int.reduceLT,Int.reduceLE,↓u_setN]
 refine (s40 h1 m1 (Rd.sl (L:=(encPath a.path).map cB)) (by omega) (by omega) 64 2 (by decide) (by decide)).Q ?_
 rintro r s2 ⟨h2,m2⟩
 have l2:=vn 64 2 (encPath a.path) ([]++oneA 64 1 [IntKind.u8.wrap a.org])
 simp only [↓vcPre,↓z0,↓reduceIte,vcPost,vcStd,Nat.reduceEqDiff,reduceCtorEq,Nat.reduceAdd,Nat.reduceLeDiff,Int.reduceLT,Int.reduceLE,↓u_setN]
 have hTi3:=(h2) _ _ hTi
 simp only [hTi3,boxC,e9,↓vcPre,↓z0,↓reduceIte,vcPost,vcStd,Nat.reduceEqDiff,reduceCtorEq,Nat.reduceAdd,Nat.reduceLeDiff,Int.reduceLT,Int.reduceLE,↓u_setN]
 refine (s38 (s:=s2) (L:=[]) Rd.nils (by simp) a.nxt).Q ?_
 rintro r s' ⟨k1,k2⟩
 rw [List.nil_append] at k2
 obtain ⟨τ',q1,q2,q3,q4⟩:=Own.addG m2 (h2) k1 k2
 simp only [↓vcPre,↓z0,↓reduceIte,vcPost,vcStd,Nat.reduceEqDiff,reduceCtorEq,Nat.reduceAdd,Nat.reduceLeDiff,Int.reduceLT,Int.reduceLE,↓u_setN]
 refine (s40 q2 q3 q4 (by omega) (by rw [x4];omega) 64 3 (by decide) (by decide)).Q ?_
 rintro r s3 ⟨h1,k3⟩
 have h1:=Store.sub_trans q1 h1
 have k3:=Own.weak k3 q1
 have l3:=vn 64 3 (b4 a.nxt) ([]++oneA 64 1 [IntKind.u8.wrap a.org]++oneA 64 2 (encPath a.path))
 rw [x4] at l3
 simp only [↓vcPre,↓z0,↓reduceIte,vcPost,vcStd,Nat.reduceEqDiff,reduceCtorEq,Nat.reduceAdd,Nat.reduceLeDiff,Int.reduceLT,Int.reduceLE,↓u_setN]
 refine z6e a (by omega) hTi h1 k3 (by omega) fun v' s' hs' ho' => ?_
 refine EndQ.to s' _ rfl (Store.sub_refl _) ⟨Store.sub_trans hsb hs',?_⟩
 have:=ho'.weak hsb
 simpa [encA,u8w] using this
end Go.Am
namespace Go.Am.Tsm
open Go.Proofs Go.Am.B
def t17_60:BC:=z [m 60 3,f 61 1 1,s 1 61 60] [1,2] (.seq (z [f 62 8 1,l 63 1 62,u 64 .len 63,c 65 .gtr 64 5] [1,2,65] (.cond (.t 65) (.ops [f 66 8 1,l 67 1 66,p 68 (.slice 1 false true) [.t 67,.c (.int .i64 5)],f 69 8 1,s 1 69 68] [1,2]) .skip)) (z [⟨some 70,none,.load (.ld 9 true),[.t 1]⟩,g 71 45 [.t 70],s 9 2 71] [2] .ret))
def t17_3:BC:=z [k 3 .nils] [1,2,3] (.seq (z [j 4 0] [1,2,3,4] (.block 0 (.loop [1,2,3,4] (.seq (z [m 18 4,f 19 1 1,l 20 1 19,u 21 .len 20,b 22 .lss 18 21,m 23 22,⟨some 24,some (23,true),.pure (.mov),[.t 4]⟩,⟨some 25,some (23,true),.pure (.bin .lss),[.t 24,.c (.int .i64 4)]⟩,⟨some 26,none,.pick,[.t 23,.t 25,.c (.bool false)]⟩] [1,2,3,4,26] (.cond (.t 26) .skip (.exit 0))) (.seq (.block 1 (z [f 29 1 1,l 30 1 29,m 31 4,x 32 2 30 31,⟨some 33,none,.load (.ld 2 true),[.t 32]⟩,⟨some 5,none,.alloc (.alloc [(.int .i64 0),.nils]),[]⟩,s 2 5 33] [1,2,3,4,5] (.seq (z [f 34 1 5,l 35 1 34,u 36 .len 35,c 37 .gtr 36 5] [1,2,3,4,5,37] (.cond (.t 37) (.ops [f 38 1 5,l 39 1 38,p 40 (.slice 1 false true) [.t 39,.c (.int .i64 5)],f 41 1 5,s 1 41 40] [1,2,3,4,5]) .skip)) (z [f 42 1 5,l 43 1 42,u 44 .len 43,c 45 .gtr 44 0,m 46 45,⟨some 47,some (46,true),.pure (.fld 0),[.t 5]⟩,⟨some 48,some (46,true),.load (.ld 1 false),[.t 47]⟩,⟨some 49,some (46,true),.pure (.bin .eql),[.t 48,.c (.int .i64 1)]⟩,⟨some 50,some (46,true),.pure (.mov),[.t 49]⟩,⟨some 51,some (50,false),.pure (.fld 0),[.t 5]⟩,⟨some 52,some (50,false),.load (.ld 1 false),[.t 51]⟩,⟨some 53,some (50,false),.pure (.bin .eql),[.t 52,.c (.int .i64 2)]⟩,⟨some 54,some (46,true),.pick,[.t 50,.c (.bool true),.t 53]⟩,⟨some 55,none,.pick,[.t 46,.t 54,.c (.bool false)]⟩] [1,2,3,4,5,55] (.cond (.t 55) (.ops [m 56 3,⟨some 57,none,.load (.ld 2 true),[.t 5]⟩,⟨some 58,none,.alloc (.mksl 2 1),[.t 57]⟩,⟨some 59,none,.loud (.app 2 32),[.t 56,.t 58]⟩,m 3 59] [1,2,3,4]) .skip))))) (.ops [m 27 4,c 28 .add 27 1,m 4 28] [1,2,3,4])))))) t17_60)
def b17:BC:=z [⟨some 1,none,.alloc (.box),[.t 0]⟩,⟨some 2,none,.alloc (.alloc [(.int .i64 0),.nils,(.int .u32 0),(.bool false),(.int .u32 0),(.bool false),(.int .u32 0),(.bool false),.nils]),[]⟩] [1,2] (z [f 6 0 1,l 7 1 6,g 8 13 [.t 7,.c (.int .i64 0),.c (.int .i64 2)],f 9 0 1,s 1 9 8] [1,2] (.seq (z [f 10 2 1,l 11 1 10,g 12 43 [.t 11],u 13 .not 12] [1,2,13] (.cond (.t 13) (.ops [f 14 2 1,l 15 1 14,g 16 44 [.t 15],f 17 2 1,s 1 17 16] [1,2]) .skip)) t17_3))
def F17:Fn Tryz.prog 17:=Fn.mkX false b17 [.c 2 9 true] 72 Tryz.f17 _ Tryz.func17 (by decide) rfl Tryz.ntmps17 (by kernel_rfl) (by kernel_rfl)
end Go.Am.Tsm
