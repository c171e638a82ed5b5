/- A part of the proof: a logic for calls over plain values, and the functions that the law reaches, each walked once. -/
import Derived.Test.YtcjiacchgddnpaaGreatPK13
set_option linter.unusedVariables false
set_option linter.unusedSimpArgs false
set_option linter.unusedSectionVars false
namespace Go.Am
open Go.Proofs Go.Sort
theorem Imp.agg {cs ds:List AV} {σ:Store} {Q:AV→Store→Prop} (h:ImpL cs ds) (hq:Q (.agg ds) σ):Weak (.agg cs) σ Q:=Weak.agg (WeakL.imp h (WeakL.pure ⟨h.flat,hq⟩))
theorem EndQ.three {slots:List RS} {Q:AV→Store→Prop} {e:Env} {τ:Store} {cs cs' ns ns':List AV} {tv:AV} (h1:e.res τ slots=some (.tup [.agg cs,tv,.agg ns])) (hc:ImpL cs cs') (hn:ImpL ns ns')
 (hQ:Q (.tup [.agg cs',tv,.agg ns']) τ) : @EndQ e τ ⟨slots,Q⟩:=by
 unfold EndQ
 refine ⟨_,h1,Weak.tup (WeakL.pos 0 rfl (Imp.agg hc (WeakL.pos 2 rfl (Imp.agg hn (WeakL.pure ?_)))))⟩
 simp only [List.set]
 exact hQ
theorem z25 {Q:AV→Store→Prop} {σ τ:Store} {x y tv:AV} {L:List (List AV)} (ho:Own 1 σ L tv τ) (hs:Store.sub σ τ) (hQ:Q (.tup [x,.sl 1 L,y]) σ):WeakL [x,tv,y] τ (fun l s=>Q (.tup l) s):=by
 rcases ho with ⟨rfl,rfl⟩ | ⟨g,rfl,hg,hh⟩
 ·exact WeakL.nil 1 1 rfl (WeakL.forget hs (WeakL.pure hQ))
 ·refine WeakL.freeze 1 rfl hh (by omega) (WeakL.forget (sub_del hs hg) (WeakL.pure ?_))
  simpa using hQ
def seenM (S:List Int):List (AV×AV):=S.map fun k=>(.int .i64 k,.bool true)
theorem we (k:Int):∀ (S:List Int) (i:Nat),(k ∈ S→∃ j,mfind (.int .i64 k) (seenM S) i=some (some (j,.bool true)))∧(k ∉ S→mfind (.int .i64 k) (seenM S) i=some none)
 | [],i=>⟨fun h=>by simp at h,fun _=>rfl⟩
 | x::S,i=>by
   have ih:=we k S (i+1)
   have e:kEq (.int .i64 k) (.int .i64 x)=some (decide (k=x)):=by simp [kEq,asOne]
   simp only [seenM,List.map_cons,mfind,e]
   by_cases h:k=x
   ·subst h
    simp only [decide_true]
    exact ⟨fun _=>⟨i,rfl⟩,fun h=>by simp at h⟩
   ·rw [decide_eq_false h]
    simp only
    exact ⟨fun hm=>ih.1 (by simpa [h] using hm),fun hm=>ih.2 (fun h'=>hm (by simp [h']))⟩
theorem z89 {s:Store} {m:Nat} {S:List Int} (hm:s m=some (.map (seenM S))) (k:Int):ldv (.look false (.int .i64) (.bool false)) [.mp m,.int .i64 k] s=some (.bool (decide (k ∈ S))):=by
 have hf:keyFits (.int .i64) (.int .i64 k)=true:=by simp [keyFits,asOne]
 simp only [ldv,hf,if_true,mpOf,hm,Option.bind_some]
 by_cases h:k ∈ S
 ·obtain ⟨j,hj⟩:=(we k S 0).1 h
  rw [hj,decide_eq_true h];rfl
 ·rw [(we k S 0).2 h,decide_eq_false h];rfl
theorem z77 {s:Store} {m:Nat} {S:List Int} {k:Int} {K:Store→Prop} (hm:s m=some (.map (seenM S))) (hk:k ∉ S) (h:K (s.set m (.map (seenM (S++[k]))))):mupdwp (.int .i64) (.mp m) (.int .i64 k) (.bool true) s K:=by
 refine ⟨by simp [keyFits,asOne],?_⟩
 simp only [hm,(we k S 0).2 hk]
 simpa [seenM] using h
def zC:List AV:=[.int .i64 0,.nils,.int .u32 0,.bool false,.int .u32 0,.bool false,.int .u32 0,.bool false,.nils]
def zN:List AV:=[.int .i64 0,.int .i64 0,.nils]
theorem zc9:ImpL zC zeroAt.c := .cons (.refl rfl) (.cons .nils (.cons (.refl rfl) (.cons (.refl rfl) (.cons (.refl rfl) (.cons (.refl rfl) (.cons (.refl rfl) (.cons (.refl rfl) (.cons .nils .nil))))))))
def outD (x:Except Nt (At×List Int)):AV:=match x with
 | .ok (a,ty) => .tup [.agg a.c,.sl 1 (ty.map cI),.agg [.int .i64 0,.int .i64 0,.sl 1 []]]
 | .error n => .tup [.agg zeroAt.c,.sl 1 [],.agg [.int .i64 3,.int .i64 n.1,.sl 1 (n.2.map cB)]]
def outO (x:Except Nt (At×List Int)) (tv:AV):AV:=match x with
 | .ok (a,_) => .tup [.agg a.c,tv,.agg [.int .i64 0,.int .i64 0,.sl 1 []]]
 | .error n => .tup [.agg zeroAt.c,tv,.agg [.int .i64 3,.int .i64 n.1,.sl 1 (n.2.map cB)]]
def tyO (x:Except Nt (At×List Int)):List (List AV):=match x with
 | .ok (_,ty)=>ty.map cI
 | .error _=>[]
theorem z22 {c:Ch} {a a':At} (h:stepA c a = .ok a') (ha:a.ok) (hv:c.val.length≤1000000):a'.ok:=by
 unfold stepA at h
 split at h
 ·split at h
  ·cases h
  ·cases h;exact ha
 ·split at h
  ·cases h
  ·split at h
   ·cases h
   ·unfold valA at h
    repeat' split at h
    all_goals first
     | (cases h;exact ha)
     | cases h
     | skip
    ·rename_i l hl
     unfold decPath at hl
     split at hl
     ·split at hl
      ·rename_i hp
       cases hl
       exact ⟨by have:=hp.2;show l.length≤1000000;omega,fun s hs=>by have:=(hp.1 s hs).2.2;show s.ls.length≤_;omega,ha.2.2⟩
      ·cases hl
     ·cases hl
    ·refine ⟨ha.1,ha.2.1,?_⟩
     have:=yy (c.val.length / 4) c.val (by omega)
     simp only
     omega
theorem z56 {σ V:Store} {p4 p6 p7 m x:Nat} (inner:Bool) {rv tv av bo:AV} (c:Ch) (a:At) (ty:List Int) (h46:¬ p4=p6) (h6:¬ p6=p4) (hx4:¬ p4=x) (hx6:¬ p6=x) (hx7:¬ p7=x) (h47:¬ p4=p7) (h67:¬ p6=p7) (m7:¬ m=p7)
 (hV:Store.sub σ V) (Vx:V x=some (.box [.int .i64 c.fl,.int .i64 c.kind,.sl 1 (c.val.map cB),av])) (V4:V p4=some (.box zC)) (V6:V p6=some (.box zN)) {M:Obj} (Vm:V m=some M) (hM:∀ L,M ≠ .arr 1 L) (hm7:¬ p7=m) (VA:AI σ p7 a V) (Vo:Own 1 σ (ty.map cI) tv V)
 (hv:c.val.length≤1000000) (hu:U8s c.val) (hal:c.all.length≤1000000) (hty:ty.length≤1000000) (hra:Rd 1 σ (c.all.map cB) av) {n r:Env→Store→Prop} {xx:Nat→Env→Store→Prop}
 (hgo:∀ a' tv' t,stepA c a = .ok a'→AI σ p7 a' t→t p4=some (.box zC)→t p6=some (.box zN)→t m=some M→Own 1 σ ((ty++[c.kind]).map cI) tv' t→n [(0,rv),(1,.bool inner),(4,.ptr p4 0),(6,.ptr p6 0),(7,.ptr p7 0),(8,tv'),(9,.mp m)] t∧xx 1 [(0,rv),(1,.bool inner),(4,.ptr p4 0),(6,.ptr p6 0),(7,.ptr p7 0),(8,tv'),(9,.mp m)] t)
 (hbad:∀ t nt,stepA c a = .error nt→Store.sub σ t→r [(4,.ptr p4 0),(5,.nils),(6,.ptr p6 0)] ((t.set p4 (.box zC)).set p6 (.box [.int .i64 3,.int .i64 nt.1,.sl 1 (nt.2.map cB)]))) :
 bwp Tryz.prog Tsq.t28_49 [(0,rv),(1,.bool inner),(4,.ptr p4 0),(6,.ptr p6 0),(7,.ptr p7 0),(8,tv),(9,.mp m),(10,.ptr x 0),(47,bo)] V n r xx:=by
 simp only [Tsq.t28_49]
 have zC9:zC.length=9:=rfl
 have szz:splice 0 zC zC=some zC:=rfl
 have szn:∀ x y z:AV,splice 0 [x,y,z] zN=some [x,y,z]:=fun _ _ _=>rfl
 have szl:splice 0 [.int .i64 0,.nils,.int .u32 0,.bool false,.int .u32 0,.bool false,.int .u32 0,.bool false,.nils] zC=some zC:=rfl
 simp only [Vx,↓vcPre,↓z0,↓reduceIte,vcPost,vcStd,Nat.reduceEqDiff,reduceCtorEq,Nat.reduceAdd,Nat.reduceLeDiff,Int.reduceLT,Int.reduceLE,↓u_setN]
 refine (c69 c.kind).Q ?_
 by_cases hw:wantOf c.kind=0
 ·rw [show ofOk c.kind=false by simp [ofOk,hw]]
  simp only [Vx,↓vcPre,↓z0,↓reduceIte,vcPost,vcStd,Nat.reduceEqDiff,reduceCtorEq,Nat.reduceAdd,Nat.reduceLeDiff,Int.reduceLT,Int.reduceLE,↓u_setN]
  have e1:andI c.fl 128=bitInt .and .i64 c.fl 128:=rfl
  have hst:stepA c a=if andI c.fl 128=0 then .error (2,c.all) else .ok a:=by unfold stepA;rw [if_pos hw]
  refine ⟨fun g => ?_,fun g => ?_⟩
  ·refine (s68 (hra.mono hV) (by omega) 2).Q ?_
   rintro r' t ⟨rfl,rfl⟩
   simp only [V4,V6,h46,h6,zC9,szz,szn,szl,↓vcPre,↓z0,↓reduceIte,vcPost,vcStd,Nat.reduceEqDiff,reduceCtorEq,Nat.reduceAdd,Nat.reduceLeDiff,Int.reduceLT,Int.reduceLE,↓u_setN]
   exact hbad _ (2,c.all) (by rw [hst,if_pos (e1.trans g)]) hV
  ·refine AllocQ.i0 fun b hb => ?_
   simp only [↓vcPre,↓z0,↓reduceIte,vcPost,vcStd,Nat.reduceEqDiff,reduceCtorEq,Nat.reduceAdd,Nat.reduceLeDiff,Int.reduceLT,Int.reduceLE,↓u_setN]
   have hsb:=Store.sub_set V b (.arr 1 [[.int .i64 c.kind]]) hb
   have hVA:=VA.2.1
   refine Own.appK (τ:=σ) (bytes:=8) (Store.sub_trans hV hsb) (Vo.mono hsb) (zl (Store.set_same _ _ _) rfl) (by simp;omega) fun v' t ht ho hk => ?_
   have kk:∀ q o,V q=some o→(∀ L,o ≠ .arr 1 L)→t q=some o:=fun q o hq hn=>hk _ _ (hsb _ _ hq) (fun L=>hn L)
   obtain ⟨q1,q2,pv,cv,q3,q4,q5⟩:=VA
   exact (hgo a v' t (by rw [hst,if_neg (by rw [e1];exact g)]) ⟨q1,ht,pv,cv,kk _ _ q3 (fun L e=>by cases e),q4,q5⟩ (kk _ _ V4 (fun L e=>by cases e)) (kk _ _ V6 (fun L e=>by cases e)) (kk _ _ Vm hM) (by simpa [cI] using ho)).2
 ·rw [show ofOk c.kind=true by simp [ofOk,hw]]
  simp only [Vx,↓vcPre,↓z0,↓reduceIte,vcPost,vcStd,Nat.reduceEqDiff,reduceCtorEq,Nat.reduceAdd,Nat.reduceLeDiff,Int.reduceLT,Int.reduceLE,↓u_setN]
  refine (s70 VA c hw hv hu hal hra).Q ?_
  rintro r' t ⟨hk,hpost⟩
  have t4:=hk _ _ h47 V4
  have t6:=hk _ _ h67 V6
  have tm:=hk _ _ m7 Vm
  have to:Own 1 σ (ty.map cI) tv t:=by
   rcases Vo with h | ⟨g,h1,h2,h3⟩
   ·exact .inl h
   ·refine .inr ⟨g,h1,h2,hk _ _ (fun e => ?_) h3⟩
    obtain ⟨_,_,pv,cv,h,_⟩:=VA
    rw [←e,h3] at h;cases h
  have tx:=hk _ _ (fun e=>hx7 e.symm) Vx
  cases hs:stepA c a with
  | ok a' =>
    rw [hs] at hpost
    obtain ⟨rfl,hA⟩:=hpost
    simp only [note0]
    simp only [↓vcPre,↓z0,↓reduceIte,vcPost,vcStd,Nat.reduceEqDiff,reduceCtorEq,Nat.reduceAdd,Nat.reduceLeDiff,Int.reduceLT,Int.reduceLE,↓u_setN]
    refine AllocQ.i0 fun b hb => ?_
    have hsb:Store.sub t ((t.set b (.box zN)).set b (.box zN)):=z6 (Store.sub_set _ _ _ hb) hb
    rw [show [AV.int .i64 0,.int .i64 0,.nils]=zN from rfl]
    have hbb:((t.set b (.box zN)).set b (.box zN)) b=some (.box zN):=Store.set_same _ _ _
    have szN:splice 0 zN zN=some zN:=rfl
    have z3:zN.length=3:=rfl
    have zt:List.take 1 zN=[.int .i64 0]:=rfl
    have d00:((0:Int)=0)=True:=by simp
    simp only [szN,↓vcPre,↓z0,↓reduceIte,vcPost,vcStd,Nat.reduceEqDiff,reduceCtorEq,Nat.reduceAdd,Nat.reduceLeDiff,Int.reduceLT,Int.reduceLE,↓u_setN]
    generalize (t.set b (.box zN)).set b (.box zN)=W at hsb hbb ⊢
    simp only [z3,zt,hsb _ _ tx,hsb _ _ t4,hsb _ _ t6,d00,↓vcPre,↓z0,↓reduceIte,vcPost,vcStd,Nat.reduceEqDiff,reduceCtorEq,Nat.reduceAdd,Nat.reduceLeDiff,Int.reduceLT,Int.reduceLE,↓u_setN]
    refine AllocQ.i0 fun d hd => ?_
    simp only [↓vcPre,↓z0,↓reduceIte,vcPost,vcStd,Nat.reduceEqDiff,reduceCtorEq,Nat.reduceAdd,Nat.reduceLeDiff,Int.reduceLT,Int.reduceLE,↓u_setN]
    have hsd:=Store.sub_set W d (.arr 1 [[.int .i64 c.kind]]) hd
    obtain ⟨q1,q2,pv,cv,q3,q4,q5⟩:=hA
    refine Own.appK (τ:=σ) (bytes:=8) (Store.sub_trans q2 (Store.sub_trans hsb hsd)) ((to.mono hsb).mono hsd) (zl (Store.set_same _ _ _) rfl) (by simp;omega) fun v' y hy ho hk2 => ?_
    have kk:∀ q o,t q=some o→(∀ L,o ≠ .arr 1 L)→y q=some o:=fun q o hq hn=>hk2 _ _ (hsd _ _ (hsb _ _ hq)) (fun L=>hn L)
    exact (hgo a' v' y hs ⟨q1,hy,pv,cv,kk _ _ q3 (fun L e=>by cases e),q4,q5⟩ (kk _ _ t4 (fun L e=>by cases e)) (kk _ _ t6 (fun L e=>by cases e)) (kk _ _ tm hM) (by simpa [cI] using ho)).1
  | error nt =>
    rw [hs] at hpost
    obtain ⟨rfl,hA⟩:=hpost
    simp only [noteV]
    simp only [↓vcPre,↓z0,↓reduceIte,vcPost,vcStd,Nat.reduceEqDiff,reduceCtorEq,Nat.reduceAdd,Nat.reduceLeDiff,Int.reduceLT,Int.reduceLE,↓u_setN]
    refine AllocQ.i0 fun b hb => ?_
    simp only [↓vcPre,↓z0,↓reduceIte,vcPost,vcStd,Nat.reduceEqDiff,reduceCtorEq,Nat.reduceAdd,Nat.reduceLeDiff,Int.reduceLT,Int.reduceLE,↓u_setN]
    have hsb:Store.sub t ((t.set b (.box [.int .i64 0,.int .i64 0,.nils])).set b (.box [.int .i64 3,.int .i64 nt.1,.sl 1 (nt.2.map cB)])):=z6 (Store.sub_set _ _ _ hb) hb
    have hbb:((t.set b (.box [.int .i64 0,.int .i64 0,.nils])).set b (.box [.int .i64 3,.int .i64 nt.1,.sl 1 (nt.2.map cB)])) b=some (.box [.int .i64 3,.int .i64 nt.1,.sl 1 (nt.2.map cB)]):=Store.set_same _ _ _
    generalize (t.set b (.box [.int .i64 0,.int .i64 0,.nils])).set b (.box [.int .i64 3,.int .i64 nt.1,.sl 1 (nt.2.map cB)])=W at hsb hbb ⊢
    have b4:¬ p4=b:=fun e=>by rw [e,hb] at t4;cases t4
    have b4':¬ b=p4:=fun e=>b4 e.symm
    have d30:((3:Int)=0)=False:=by simp
    simp only [d30,hsb _ _ t4,hsb _ _ t6,hbb,h46,h6,b4,b4',zC9,szz,szn,szl,↓vcPre,↓z0,↓reduceIte,vcPost,vcStd,Nat.reduceEqDiff,reduceCtorEq,Nat.reduceAdd,Nat.reduceLeDiff,Int.reduceLT,Int.reduceLE,↓u_setN]
    exact ⟨hbad _ nt hs (Store.sub_trans hA hsb),hbad _ nt hs (Store.sub_trans hA hsb)⟩
theorem za3 {f:Nat} {cells cells':List AV} {s:Store} {Q:AV→Store→Prop} (hi:ImpL cells cells') (h:ACalls Tryz.prog f [.agg cells'] s Q):ACalls Tryz.prog f [.agg cells] s Q :=
 ACalls.weakArgs h.1 (WeakL.pos 0 rfl (Imp.agg hi (WeakL.pure h)))
theorem AI.imp {a:At} {pv cv:AV} (hp:pv = .sl 2 (a.path.map Seg.c)∨pv = .nils∧a.path=[]) (hc:cv = .sl 1 (a.cms.map cU)∨cv = .nils∧a.cms=[]):ImpL [.int .i64 a.org,pv,.int .u32 a.nxt,.bool a.hm,.int .u32 a.med,.bool a.hp,.int .u32 a.prf,.bool a.atm,cv] a.c:=by
 have h1:Imp pv (.sl 2 (a.path.map Seg.c)):=by
  rcases hp with rfl | ⟨rfl,e⟩
  ·exact .refl rfl
  ·rw [e];exact .nils
 have h2:Imp cv (.sl 1 (a.cms.map cU)):=by
  rcases hc with rfl | ⟨rfl,e⟩
  ·exact .refl rfl
  ·rw [e];exact .nils
 exact .cons (.refl rfl) (.cons h1 (.cons (.refl rfl) (.cons (.refl rfl) (.cons (.refl rfl) (.cons (.refl rfl) (.cons (.refl rfl) (.cons (.refl rfl) (.cons h2 .nil))))))))
def InvD (σ:Store) (p4 p6 p7 m:Nat) (inner:Bool) (B0:List Int) (w:(List Int×AV)×(At×List Int)×(List Int×AV)×Store):Prop :=
 Rd 1 σ (w.1.1.map cB) w.1.2∧U8s w.1.1∧AI σ p7 w.2.1.1 w.2.2.2∧w.2.1.1.ok∧w.2.2.2 p4=some (.box zC)∧w.2.2.2 p6=some (.box zN)∧w.2.2.2 m=some (.map (seenM w.2.1.2.reverse)) ∧
  Own 1 σ (w.2.2.1.1.map cI) w.2.2.1.2 w.2.2.2∧w.2.2.1.1.length+w.1.1.length≤B0.length∧decL inner w.1.1.length w.1.1 w.2.1.1 w.2.1.2 w.2.2.1.1=decL inner B0.length B0 zeroAt [] []
theorem z60 {b:List Int} {c:Ch} (hu:U8s b) (h:chunk b=some c):U8s c.val∧U8s c.rest∧c.val.length≤b.length∧c.all.length≤b.length:=by
 have ht:∀ (l:List Int) (n:Nat),(∀ x ∈ l,x ∈ b)→U8s (l.take n)∧U8s (l.drop n):=fun l n hl=>⟨fun x hx=>hu x (hl x (List.mem_of_mem_take hx)),fun x hx=>hu x (hl x (List.mem_of_mem_drop hx))⟩
 unfold chunk at h
 split at h
 ·split at h
  ·split at h
   ·cases h
   ·cases h
    refine ⟨(ht _ _ fun x hx=>by simp [hx]).1,(ht _ _ fun x hx=>by simp [hx]).2,by simp;omega,by simp;omega⟩
  ·split at h
   ·split at h
    ·cases h
    ·cases h
     refine ⟨(ht _ _ fun x hx=>by simp [hx]).1,(ht _ _ fun x hx=>by simp [hx]).2,by simp;omega,by simp;omega⟩
   ·cases h
 ·cases h
set_option maxHeartbeats 1000000 in
theorem zes {σ:Store} {B:List Int} {v:AV} (hr:Rd 1 σ (B.map cB) v) (hB:B.length≤1000000) (hu:U8s B) (inner:Bool):ACalls Tryz.prog 28 [v,.bool inner] σ (fun r s=>Store.sub σ s∧∃ tv,r=outO (decA inner B) tv∧Own 1 σ (tyO (decA inner B)) tv s):=by
 refine zf Tsq.F28 (by simp [Tsq.F28,Fn.mkX]) ?_
 simp only [Tsq.F28,Fn.mkX,Tsq.b28]
 simp only [↓vcPre,↓z0,↓reduceIte,vcPost,vcStd,Nat.reduceEqDiff,reduceCtorEq,Nat.reduceAdd,Nat.reduceLeDiff,Int.reduceLT,Int.reduceLE,↓u_setN]
 refine AllocQ.i0 fun p4 h4 => ?_
 simp only [↓vcPre,↓z0,↓reduceIte,vcPost,vcStd,Nat.reduceEqDiff,reduceCtorEq,Nat.reduceAdd,Nat.reduceLeDiff,Int.reduceLT,Int.reduceLE,↓u_setN]
 refine AllocQ.i1 fun p6 h6 h46 h6s => ?_
 simp only [↓vcPre,↓z0,↓reduceIte,vcPost,vcStd,Nat.reduceEqDiff,reduceCtorEq,Nat.reduceAdd,Nat.reduceLeDiff,Int.reduceLT,Int.reduceLE,↓u_setN]
 refine AllocQ.i2 fun p7 h74 h47 h76 h67 h7s => ?_
 simp only [↓vcPre,↓z0,↓reduceIte,vcPost,vcStd,Nat.reduceEqDiff,reduceCtorEq,Nat.reduceAdd,Nat.reduceLeDiff,Int.reduceLT,Int.reduceLE,↓u_setN]
 rw [show [AV.int .i64 0,.nils,.int .u32 0,.bool false,.int .u32 0,.bool false,.int .u32 0,.bool false,.nils]=zC from rfl,show [AV.int .i64 0,.int .i64 0,.nils]=zN from rfl]
 have T4:(((σ.set p4 (.box zC)).set p6 (.box zN)).set p7 (.box zC)) p4=some (.box zC):=by rw [Store.set_ne _ _ h47,Store.set_ne _ _ h46,Store.set_same]
 have T6:(((σ.set p4 (.box zC)).set p6 (.box zN)).set p7 (.box zC)) p6=some (.box zN):=by rw [Store.set_ne _ _ h67,Store.set_same]
 have T7:(((σ.set p4 (.box zC)).set p6 (.box zN)).set p7 (.box zC)) p7=some (.box zC):=Store.set_same _ _ _
 have sT:Store.sub σ (((σ.set p4 (.box zC)).set p6 (.box zN)).set p7 (.box zC)):=z6 (z6 (z6 (Store.sub_refl _) h4) h6s) h7s
 generalize ((σ.set p4 (.box zC)).set p6 (.box zN)).set p7 (.box zC)=T at T4 T6 T7 sT ⊢
 refine AllocQ.i0 fun m hm => ?_
 have hσm:σ m=none:=zi sT hm
 have m4:¬ m=p4:=fun e=>by rw [e,T4] at hm;cases hm
 have m6:¬ m=p6:=fun e=>by rw [e,T6] at hm;cases hm
 have m7:¬ m=p7:=fun e=>by rw [e,T7] at hm;cases hm
 have n4:¬ p4=m:=fun e=>m4 e.symm
 have n6:¬ p6=m:=fun e=>m6 e.symm
 have n7:¬ p7=m:=fun e=>m7 e.symm
 simp only [↓vcPre,↓z0,↓reduceIte,vcPost,vcStd,Nat.reduceEqDiff,reduceCtorEq,Nat.reduceAdd,Nat.reduceLeDiff,Int.reduceLT,Int.reduceLE,↓u_setN]
 have zC9:zC.length=9:=rfl
 have szz:splice 0 zC zC=some zC:=rfl
 have szn:∀ x y z:AV,splice 0 [x,y,z] zN=some [x,y,z]:=fun _ _ _=>rfl
 have bad:∀ (t:Store) (n:Nt),Store.sub σ t→decL inner B.length B zeroAt [] [] = .error n → @EndQ [(4,.ptr p4 0),(5,.nils),(6,.ptr p6 0)] ((t.set p4 (.box zC)).set p6 (.box [.int .i64 3,.int .i64 n.1,.sl 1 (n.2.map cB)])) ⟨Tsq.F28.slots,fun r s=>Store.sub σ s∧∃ tv,r=outO (decA inner B) tv∧Own 1 σ (tyO (decA inner B)) tv s⟩:=by
  intro t n ht he
  refine EndQ.three (cs:=zC) (cs':=zeroAt.c) (ns:=[.int .i64 3,.int .i64 n.1,.sl 1 (n.2.map cB)]) (ns':=[.int .i64 3,.int .i64 n.1,.sl 1 (n.2.map cB)]) (tv := .nils) ?_ zc9 (ImpL.refl _ (by simp [AV.flat])) ⟨z6 (z6 ht h4) h6s,.nils,?_,?_⟩
  ·show Env.res [(4,AV.ptr p4 0),(5,.nils),(6,AV.ptr p6 0)] _ [RS.c 4 9 true,RS.t 5,RS.c 6 3 true]=_
   simp only [h46,h6,Store.set_same,↓vcPre,↓z0,↓reduceIte,vcPost,vcStd,Nat.reduceEqDiff,reduceCtorEq,Nat.reduceAdd,Nat.reduceLeDiff,Int.reduceLT,Int.reduceLE,↓u_setN]
   rfl
  ·simp only [decA,he,outO]
  ·simp only [decA,he,tyO];exact Own.nil
 refine LoopQ.inv (S:=(List Int×AV)×(At×List Int)×(List Int×AV)×Store) (fun w=>[(0,w.1.2),(1,.bool inner),(4,.ptr p4 0),(6,.ptr p6 0),(7,.ptr p7 0),(8,w.2.2.1.2),(9,.mp m)]) (fun w=>w.2.2.2) (InvD σ p4 p6 p7 m inner B) (fun w=>w.1.1.length) ((B,v),(zeroAt,[]),([],.nils),T.set m (.map [])) rfl (Store.sub_refl _) ⟨hr,hu,⟨h7s,z6 sT hσm,.nils,.nils,(Store.set_ne _ _ n7).trans T7,.inr ⟨rfl,rfl⟩,.inr ⟨rfl,rfl⟩⟩,z5s,(Store.set_ne _ _ n4).trans T4,(Store.set_ne _ _ n6).trans T6,Store.set_same _ _ _,Own.nil,by simp,rfl⟩ ?_
 rintro ⟨⟨B1,bv⟩,⟨a,S⟩,⟨ty,tv⟩,s⟩ ⟨k1,k2,k3,k4,k5,k6,k7,k8,k9,k10⟩
 simp only at k1 k2 k3 k4 k5 k6 k7 k8 k9 k10
 have hlen:pv .len [bv]=some (.int .i64 (B1.length:Int)):=by rw [k1.2];simp
 simp only [hlen,↓vcPre,↓z0,↓reduceIte,vcPost,vcStd,Nat.reduceEqDiff,reduceCtorEq,Nat.reduceAdd,Nat.reduceLeDiff,Int.reduceLT,Int.reduceLE,↓u_setN]
 have hσs:=k3.2.1
 refine ⟨fun c1 => ?_,fun c1 => ?_⟩
 ·obtain ⟨x0,B2,hB2⟩:∃ x r,B1=x::r:=by cases B1 with | nil=>simp at c1 | cons x r=>exact ⟨x,r,rfl⟩
  refine (s67 k3.2.1 k1 (by omega) k2).Q ?_
  rintro r s1 ⟨rfl,hcr⟩
  have hstep:decL inner B1.length B1 a S ty=match chunk B1 with
   | none => .error (1,[])
   | some c=>if c.kind ∈ S then .error (1,[]) else if c.kind=5∧inner=false then decL inner c.rest.length c.rest a (c.kind::S) ty
     else match stepA c a with | .error n => .error n | .ok a'=>decL inner c.rest.length c.rest a' (c.kind::S) (ty++[c.kind]):=by
   rw [hB2]
   show decL inner (B2.length+1) (x0::B2) a S ty=_
   simp only [decL]
   cases hc:chunk (x0::B2) with
   | none=>rfl
   | some c =>
     have hl:=wa hc
     simp only [List.length_cons] at hl
     have e:=fun a S ty=>wd inner B2.length c.rest.length c.rest a S ty (by omega) (Nat.le_refl _)
     simp only [e]
     rfl
  rw [k10] at hstep
  cases hc:chunk B1 with
  | none =>
    rw [hc] at hcr hstep
    subst hcr
    simp only [↓vcPre,↓z0,↓reduceIte,vcPost,vcStd,Nat.reduceEqDiff,reduceCtorEq,Nat.reduceAdd,Nat.reduceLeDiff,Int.reduceLT,Int.reduceLE,↓u_setN]
    refine AllocQ.i0 fun x hx => ?_
    simp only [↓vcPre,↓z0,↓reduceIte,vcPost,vcStd,Nat.reduceEqDiff,reduceCtorEq,Nat.reduceAdd,Nat.reduceLeDiff,Int.reduceLT,Int.reduceLE,↓u_setN]
    have sU:Store.sub s1 ((s1.set x (.box [.int .i64 0,.int .i64 0,.nils,.nils])).set x (.box [.int .i64 0,.int .i64 0,.nils,.nils])):=z6 (Store.sub_set _ _ _ hx) hx
    have Ux:((s1.set x (.box [.int .i64 0,.int .i64 0,.nils,.nils])).set x (.box [.int .i64 0,.int .i64 0,.nils,.nils])) x=some (.box [.int .i64 0,.int .i64 0,.nils,.nils]):=Store.set_same _ _ _
    generalize (s1.set x (.box [.int .i64 0,.int .i64 0,.nils,.nils])).set x (.box [.int .i64 0,.int .i64 0,.nils,.nils])=U at sU Ux ⊢
    have U4:=sU _ _ k5
    have U6:=sU _ _ k6
    have Um:=sU _ _ k7
    have σU:=Store.sub_trans hσs sU
    refine (s68 (M:=[]) Rd.nils (by simp) 1).Q ?_
    rintro r t ⟨rfl,rfl⟩
    simp only [U4,U6,h46,h6,zC9,szz,szn,↓vcPre,↓z0,↓reduceIte,vcPost,vcStd,Nat.reduceEqDiff,reduceCtorEq,Nat.reduceAdd,Nat.reduceLeDiff,Int.reduceLT,Int.reduceLE,↓u_setN]
    exact bad _ (1,[]) σU hstep
  | some c =>
    rw [hc] at hcr hstep
    simp only at hcr hstep
    obtain ⟨av,rv,rfl,hra,hrr⟩:=hcr
    have hcl:=wa hc
    have cu:=z60 k2 hc
    simp only [↓vcPre,↓z0,↓reduceIte,vcPost,vcStd,Nat.reduceEqDiff,reduceCtorEq,Nat.reduceAdd,Nat.reduceLeDiff,Int.reduceLT,Int.reduceLE,↓u_setN]
    refine AllocQ.i0 fun x hx => ?_
    simp only [↓vcPre,↓z0,↓reduceIte,vcPost,vcStd,Nat.reduceEqDiff,reduceCtorEq,Nat.reduceAdd,Nat.reduceLeDiff,Int.reduceLT,Int.reduceLE,↓u_setN]
    have sU:Store.sub s1 ((s1.set x (.box [.int .i64 0,.int .i64 0,.nils,.nils])).set x (.box [.int .i64 c.fl,.int .i64 c.kind,.sl 1 (c.val.map cB),av])):=z6 (Store.sub_set _ _ _ hx) hx
    have Ux:((s1.set x (.box [.int .i64 0,.int .i64 0,.nils,.nils])).set x (.box [.int .i64 c.fl,.int .i64 c.kind,.sl 1 (c.val.map cB),av])) x=some (.box [.int .i64 c.fl,.int .i64 c.kind,.sl 1 (c.val.map cB),av]):=Store.set_same _ _ _
    generalize (s1.set x (.box [.int .i64 0,.int .i64 0,.nils,.nils])).set x (.box [.int .i64 c.fl,.int .i64 c.kind,.sl 1 (c.val.map cB),av])=U at sU Ux ⊢
    have U4:=sU _ _ k5
    have U6:=sU _ _ k6
    have Um:=sU _ _ k7
    have σU:=Store.sub_trans hσs sU
    have hx7:¬ p7=x:=fun e=>by obtain ⟨_,_,pv,cv,h,_⟩:=k3;rw [e,hx] at h;cases h
    have hx4:¬ p4=x:=fun e=>by rw [e,hx] at k5;cases k5
    have hx6:¬ p6=x:=fun e=>by rw [e,hx] at k6;cases k6
    have hxm:¬ m=x:=fun e=>by rw [e,hx] at k7;cases k7
    have g7:¬ x=p7:=fun e=>hx7 e.symm
    have gm:¬ x=m:=fun e=>hxm e.symm
    have g4:¬ x=p4:=fun e=>hx4 e.symm
    have g6:¬ x=p6:=fun e=>hx6 e.symm
    rw [z89 Um]
    by_cases hk:c.kind ∈ S
    ·rw [if_pos hk] at hstep
     rw [decide_eq_true (List.mem_reverse.2 hk)]
     simp only [↓vcPre,↓z0,↓reduceIte,vcPost,vcStd,Nat.reduceEqDiff,reduceCtorEq,Nat.reduceAdd,Nat.reduceLeDiff,Int.reduceLT,Int.reduceLE,↓u_setN]
     refine (s68 (M:=[]) Rd.nils (by simp) 1).Q ?_
     rintro r t ⟨rfl,rfl⟩
     simp only [U4,U6,h46,h6,zC9,szz,szn,↓vcPre,↓z0,↓reduceIte,vcPost,vcStd,Nat.reduceEqDiff,reduceCtorEq,Nat.reduceAdd,Nat.reduceLeDiff,Int.reduceLT,Int.reduceLE,↓u_setN]
     exact bad _ (1,[]) σU hstep
    ·rw [if_neg hk] at hstep
     have hk':c.kind ∉ S.reverse:=fun h=>hk (List.mem_reverse.1 h)
     rw [decide_eq_false hk']
     simp only [↓vcPre,↓z0,↓reduceIte,vcPost,vcStd,Nat.reduceEqDiff,reduceCtorEq,Nat.reduceAdd,Nat.reduceLeDiff,Int.reduceLT,Int.reduceLE,↓u_setN]
     refine z77 Um hk' ?_
     rw [←List.reverse_cons]
     have hV:Store.sub σ (U.set m (.map (seenM (c.kind::S).reverse))):=z6 σU hσm
     have Vx:(U.set m (.map (seenM (c.kind::S).reverse))) x=some (.box [.int .i64 c.fl,.int .i64 c.kind,.sl 1 (c.val.map cB),av]):=by rw [Store.set_ne _ _ gm];exact Ux
     have V4:(U.set m (.map (seenM (c.kind::S).reverse))) p4=some (.box zC):=by rw [Store.set_ne _ _ n4];exact U4
     have V6:(U.set m (.map (seenM (c.kind::S).reverse))) p6=some (.box zN):=by rw [Store.set_ne _ _ n6];exact U6
     have Vm:(U.set m (.map (seenM (c.kind::S).reverse))) m=some (.map (seenM (c.kind::S).reverse)):=Store.set_same _ _ _
     have VA:AI σ p7 a (U.set m (.map (seenM (c.kind::S).reverse))):=by
      obtain ⟨q1,q2,pv,cv,q3,q4,q5⟩:=k3
      exact ⟨q1,hV,pv,cv,by rw [Store.set_ne _ _ n7];exact sU _ _ q3,q4,q5⟩
     have Vo:Own 1 σ (ty.map cI) tv (U.set m (.map (seenM (c.kind::S).reverse))):=(k8.mono sU).setId Um (fun M e=>by cases e)
     generalize U.set m (.map (seenM (c.kind::S).reverse))=V at hV Vx V4 V6 Vm VA Vo ⊢
     simp only [Vx,↓vcPre,↓z0,↓reduceIte,vcPost,vcStd,Nat.reduceEqDiff,reduceCtorEq,Nat.reduceAdd,Nat.reduceLeDiff,Int.reduceLT,Int.reduceLE,↓u_setN]
     have next:∀ (a':At) (ty':List Int) (tv':AV) (t:Store),AI σ p7 a' t→a'.ok→t p4=some (.box zC)→t p6=some (.box zN)→t m=some (.map (seenM (c.kind::S).reverse))→Own 1 σ (ty'.map cI) tv' t→ty'.length≤ty.length+1→decL inner B.length B zeroAt [] []=decL inner c.rest.length c.rest a' (c.kind::S) ty' →
      InvD σ p4 p6 p7 m inner B ((c.rest,rv),(a',c.kind::S),(ty',tv'),t):=by
      intro a' ty' tv' t g1 g2 g3 g4' g5 g6' g7' g8
      exact ⟨hrr,cu.2.1,g1,g2,g3,g4',g5,g6',by simp only;omega,g8.symm⟩
     have go5:c.kind=5∧inner=false→InvD σ p4 p6 p7 m inner B ((c.rest,rv),(a,c.kind::S),(ty,tv),V):=fun h=>next a ty tv V VA k4 V4 V6 Vm Vo (by omega) (by rw [hstep,if_pos h])
     refine ⟨fun e5 => ?_,fun e5 => ?_⟩
     ·cases inner with
      | false =>
        simp only [↓vcPre,↓z0,↓reduceIte,vcPost,vcStd,Nat.reduceEqDiff,reduceCtorEq,Nat.reduceAdd,Nat.reduceLeDiff,Int.reduceLT,Int.reduceLE,↓u_setN]
        exact NextQ.to ((c.rest,rv),(a,c.kind::S),(ty,tv),V) rfl (Store.sub_refl _) (by simp only;omega) (go5 ⟨e5,rfl⟩)
      | true =>
        have hn:¬ (c.kind=5∧true=false):=by simp
        simp only [↓vcPre,↓z0,↓reduceIte,vcPost,vcStd,Nat.reduceEqDiff,reduceCtorEq,Nat.reduceAdd,Nat.reduceLeDiff,Int.reduceLT,Int.reduceLE,↓u_setN]
        refine z56 (σ:=σ) true c a ty h46 h6 hx4 hx6 hx7 h47 h67 m7 hV Vx V4 V6 Vm (fun L e=>by cases e) n7 VA Vo (by omega) cu.1 (by omega) (by omega) hra (fun a' tv' t g0 g1 g3 g4' g5 g6' => ?_) (fun t nt g0 g1 => ?_)
        ·have I:=next a' (ty++[c.kind]) tv' t g1 (z22 g0 k4 (by omega)) g3 g4' g5 g6' (by simp) (by rw [hstep,if_neg hn,g0])
         refine ⟨NextQ.to ((c.rest,rv),(a',c.kind::S),(ty++[c.kind],tv'),t) rfl (Store.sub_refl _) (by simp only;omega) I,?_⟩
         rw [if_pos rfl]
         exact NextQ.to ((c.rest,rv),(a',c.kind::S),(ty++[c.kind],tv'),t) rfl (Store.sub_refl _) (by simp only;omega) I
        ·exact bad t nt g1 (by rw [hstep,if_neg hn,g0])
     ·have hn:¬ (c.kind=5∧inner=false):=fun h=>e5 h.1
      refine z56 (σ:=σ) inner c a ty h46 h6 hx4 hx6 hx7 h47 h67 m7 hV Vx V4 V6 Vm (fun L e=>by cases e) n7 VA Vo (by omega) cu.1 (by omega) (by omega) hra (fun a' tv' t g0 g1 g3 g4' g5 g6' => ?_) (fun t nt g0 g1 => ?_)
      ·have I:=next a' (ty++[c.kind]) tv' t g1 (z22 g0 k4 (by omega)) g3 g4' g5 g6' (by simp) (by rw [hstep,if_neg hn,g0])
       refine ⟨NextQ.to ((c.rest,rv),(a',c.kind::S),(ty++[c.kind],tv'),t) rfl (Store.sub_refl _) (by simp only;omega) I,?_⟩
       rw [if_pos rfl]
       exact NextQ.to ((c.rest,rv),(a',c.kind::S),(ty++[c.kind],tv'),t) rfl (Store.sub_refl _) (by simp only;omega) I
      ·exact bad t nt g1 (by rw [hstep,if_neg hn,g0])
 ·have hB0:B1=[]:=by cases B1 with | nil=>rfl | cons x r=>simp at c1
  subst hB0
  simp only [Tsq.t28_82]
  have hfin:decL inner B.length B zeroAt [] [] = .ok (a,ty):=by rw [←k10];rfl
  simp only [↓vcPre,↓z0,↓reduceIte,vcPost,vcStd,Nat.reduceEqDiff,reduceCtorEq,Nat.reduceAdd,Nat.reduceLeDiff,Int.reduceLT,Int.reduceLE,↓u_setN]
  have e9:∀ x:At,x.c.length=9:=fun _=>rfl
  have spZ:∀ x:At,splice 0 x.c zC=some x.c:=fun _=>rfl
  have snl:splice 0 [.int .i64 0,.int .i64 0,.nils] zN=some zN:=rfl
  have z3:zN.length=3:=rfl
  obtain ⟨q1,q2,pv,cv,q3,q4,q5⟩:=k3
  have fin:∀ (t:Store) (ty':List Int),ty'=ty.mergeSort leI→Store.sub σ t→t p7=some (.box [.int .i64 a.org,pv,.int .u32 a.nxt,.bool a.hm,.int .u32 a.med,.bool a.hp,.int .u32 a.prf,.bool a.atm,cv])→t p4=some (.box zC)→t p6=some (.box zN)→Own 1 σ (ty'.map cI) tv t →
   ACalls Tryz.prog 72 [.agg [.int .i64 a.org,pv,.int .u32 a.nxt,.bool a.hm,.int .u32 a.med,.bool a.hp,.int .u32 a.prf,.bool a.atm,cv]] t (fun r s'=>s'=t∧r = .agg (canonA a).c) ∧
   @EndQ [(4,.ptr p4 0),(5,tv),(6,.ptr p6 0)] ((t.set p4 (.box (canonA a).c)).set p6 (.box zN)) ⟨Tsq.F28.slots,fun r s=>Store.sub σ s∧∃ tv,r=outO (decA inner B) tv∧Own 1 σ (tyO (decA inner B)) tv s⟩:=by
   intro t ty' hty ht h7 h4' h6' ho
   refine ⟨za3 (AI.imp q4 q5) (c72 a k4 t),?_⟩
   have ho2:Own 1 σ (ty'.map cI) tv ((t.set p4 (.box (canonA a).c)).set p6 (.box zN)):=(ho.setId h4' (fun M e=>by cases e)).setId (by rw [Store.set_ne _ _ h6];exact h6') (fun M e=>by cases e)
   refine EndQ.three (cs:=(canonA a).c) (cs':=(canonA a).c) (ns:=zN) (ns':=[.int .i64 0,.int .i64 0,.sl 1 []]) (tv:=tv) ?_ (ImpL.refl _ (fun c hc => ?_)) (.cons (.refl rfl) (.cons (.refl rfl) (.cons .nils .nil))) ⟨z6 (z6 ht h4) h6s,tv,?_,?_⟩
   ·show Env.res [(4,AV.ptr p4 0),(5,tv),(6,AV.ptr p6 0)] _ [RS.c 4 9 true,RS.t 5,RS.c 6 3 true]=_
    simp only [h46,h6,Store.set_same,↓vcPre,↓z0,↓reduceIte,vcPost,vcStd,Nat.reduceEqDiff,reduceCtorEq,Nat.reduceAdd,Nat.reduceLeDiff,Int.reduceLT,Int.reduceLE,↓u_setN]
    rfl
   ·simp only [At.c,List.mem_cons,List.not_mem_nil,or_false] at hc
    rcases hc with rfl | rfl | rfl | rfl | rfl | rfl | rfl | rfl | rfl <;> rfl
   ·simp only [decA,hfin,outO]
   ·simp only [decA,hfin,tyO];rw [←hty];exact ho2
  rcases k8 with ⟨hL,hv⟩ | ⟨g,hv,hg,hh⟩
  ·have hnil:ty=[]:=List.map_eq_nil_iff.1 hL
   subst hv
   refine (z2u hI s).Q ?_
   rintro r t ⟨rfl,rfl⟩
   have F:=fin t ty (by rw [hnil];simp) q2 q3 k5 k6 (.inl ⟨hL,rfl⟩)
   simp only [q3,↓vcPre,↓z0,↓reduceIte,vcPost,vcStd,Nat.reduceEqDiff,reduceCtorEq,Nat.reduceAdd,Nat.reduceLeDiff,Int.reduceLT,Int.reduceLE,↓u_setN]
   refine F.1.Q ?_
   rintro r t' ⟨rfl,rfl⟩
   simp only [k5,k6,h46,h6,e9,spZ,snl,z3,↓vcPre,↓z0,↓reduceIte,vcPost,vcStd,Nat.reduceEqDiff,reduceCtorEq,Nat.reduceAdd,Nat.reduceLeDiff,Int.reduceLT,Int.reduceLE,↓u_setN]
   exact F.2
  ·rw [List.length_map] at hv
   subst hv
   refine (z1j hI hh (by omega)).Q ?_
   rintro r t ⟨rfl,L',hp1,hp2,rfl⟩
   have g7:¬ p7=g:=fun e=>by rw [e,hh] at q3;cases q3
   have g4:¬ p4=g:=fun e=>by rw [e,hh] at k5;cases k5
   have g6:¬ p6=g:=fun e=>by rw [e,hh] at k6;cases k6
   have t7:(s.set g (.arr 1 (L'.map (cK .i64)))) p7=some (.box [.int .i64 a.org,pv,.int .u32 a.nxt,.bool a.hm,.int .u32 a.med,.bool a.hp,.int .u32 a.prf,.bool a.atm,cv]):=by rw [Store.set_ne _ _ g7];exact q3
   have t4:(s.set g (.arr 1 (L'.map (cK .i64)))) p4=some (.box zC):=by rw [Store.set_ne _ _ g4];exact k5
   have t6:(s.set g (.arr 1 (L'.map (cK .i64)))) p6=some (.box zN):=by rw [Store.set_ne _ _ g6];exact k6
   have F:=fin (s.set g (.arr 1 (L'.map (cK .i64)))) L' (qb hp1 hp2) (z6 q2 hg) t7 t4 t6 (.inr ⟨g,by simp [hp1.length_eq],hg,Store.set_same _ _ _⟩)
   generalize s.set g (.arr 1 (L'.map (cK .i64)))=t at t7 t4 t6 F ⊢
   simp only [t7,↓vcPre,↓z0,↓reduceIte,vcPost,vcStd,Nat.reduceEqDiff,reduceCtorEq,Nat.reduceAdd,Nat.reduceLeDiff,Int.reduceLT,Int.reduceLE,↓u_setN]
   refine F.1.Q ?_
   rintro r t' ⟨rfl,rfl⟩
   simp only [t4,t6,h46,h6,e9,spZ,snl,z3,↓vcPre,↓z0,↓reduceIte,vcPost,vcStd,Nat.reduceEqDiff,reduceCtorEq,Nat.reduceAdd,Nat.reduceLeDiff,Int.reduceLT,Int.reduceLE,↓u_setN]
   exact F.2
theorem s28 {σ:Store} {B:List Int} {v:AV} (hr:Rd 1 σ (B.map cB) v) (hB:B.length≤1000000) (hu:U8s B) (inner:Bool):ACalls Tryz.prog 28 [v,.bool inner] σ (fun r s=>s=σ∧r=outD (decA inner B)):=by
 refine (zes hr hB hu inner).weakRes ?_
 rintro r s ⟨hs,tv,rfl,ho⟩
 cases h:decA inner B with
 | error n=>rw [h] at ho;exact Weak.tup (z25 (Q:=fun a s=>s=σ∧a=outD (.error n)) ho hs ⟨rfl,rfl⟩)
 | ok x=>rw [h] at ho;exact Weak.tup (z25 (Q:=fun a s=>s=σ∧a=outD (.ok x)) ho hs ⟨rfl,rfl⟩)
end Go.Am
namespace Go.Am
open Go.Proofs Go.Sort
def RZ (σ:Store) (v:AV) (B:List Int) (τ:Store) (id:Nat) (R:List Int) (lack:Bool) (s:Store):Prop:=∃ (at_:Nat),τ id=none∧Store.sub τ s∧Store.sub σ τ∧s id=some (.box [v,.int .i64 (at_:Int),.bool lack])∧Rd 1 σ (B.map cB) v∧at_≤B.length∧R=B.drop at_∧B.length≤1000000000∧U8s B
section
variable {σ τ s:Store} {v:AV} {B:List Int} {id:Nat} {R:List Int} {lack:Bool}
theorem RZ.base (h:RZ σ v B τ id R lack s):RZ σ v B (s.del id) id R lack s∧Store.sub τ (s.del id):=by
 obtain ⟨at_,h1,h2,h3,h4,h5⟩:=h
 exact ⟨⟨at_,by simp,ya _ _,Store.sub_trans h3 (sub_del h2 h1),h4,h5⟩,sub_del h2 h1⟩
theorem RZ.of {at_:Nat} (h:RF τ id v B at_ lack s) (h1:B.length≤1000000000) (h2:U8s B) (h3:Store.sub σ τ) (h4:Rd 1 σ (B.map cB) v):RZ σ v B τ id (B.drop at_) lack s:=⟨at_,h.1,h.2.1,h3,h.2.2.1,h4,h.2.2.2.2,rfl,h1,h2⟩
end
end Go.Am
namespace Go.Am
open Go.Proofs Go.Sort
def byL (L:List Int):List UInt8:=L.map fun n=>UInt8.ofNat n.toNat
theorem z0w:∀ (L:List Int) (acc:List UInt8),toBytes (L.map cB) acc=some (acc.reverse++byL L)
 | [],acc=>by simp [toBytes,byL]
 | x::L,acc=>by
   show toBytes ([.int .u8 x]::L.map cB) acc=_
   simp only [toBytes]
   rw [z0w L];simp [byL]
theorem z1m {τ:Store} {L:List Int} {v:AV} (h:Rd 1 τ (L.map cB) v) {t:Store} (ht:Store.sub τ t):ldv .str [v] t=some (.str ⟨(byL L).toArray⟩):=by
 simp only [ldv,h.1 t ht,Option.bind_some,z0w,List.reverse_nil,List.nil_append,Option.map_some]
theorem zd6 {a b:List UInt8}:pv (.eqs false) [.str ⟨a.toArray⟩,.str ⟨b.toArray⟩]=some (.bool (a ==b)):=by
 simp [pv,pEqs]
end Go.Am
namespace Go.Am
open Go.Proofs Go.Sort
theorem c30 (l:List Int) (h:l.length≤1000000):Pur Tryz.prog 30 [.sl 1 (l.map cI),.sl 1 (l.map cI)] (.bool true):=by
 refine zj Tst.F30 (by simp [Tst.F30,Fn.mkX]) fun σ => ?_
 simp only [Tst.F30,Fn.mkX,Tst.b30]
 simp only [↓vcPre,↓z0,↓reduceIte,vcPost,vcStd,Nat.reduceEqDiff,reduceCtorEq,Nat.reduceAdd,Nat.reduceLeDiff,Int.reduceLT,Int.reduceLE,↓u_setN]
 refine LoopQ.inv (S:=Nat) (fun k=>[(0,.sl 1 (l.map cI)),(1,.sl 1 (l.map cI)),(5,.int .i64 (k:Int))]) (fun _=>σ) (fun k=>k≤l.length) (fun k=>l.length+1 - k) 0 rfl (Store.sub_refl _) (by omega) ?_
 rintro k hk
 simp only [↓vcPre,↓z0,↓reduceIte,vcPost,vcStd,Nat.reduceEqDiff,reduceCtorEq,Nat.reduceAdd,Nat.reduceLeDiff,Int.reduceLT,Int.reduceLE,↓u_setN]
 intro c1
 have ek:IntKind.i64.wrap ((k:Int)+1)=((k+1:Nat):Int):=by rw [ze (by unfold I64;omega)];omega
 refine ⟨by omega,by omega,by simp [cI],?_⟩
 simp only [cI,↓vcPre,↓z0,↓reduceIte,vcPost,vcStd,Nat.reduceEqDiff,reduceCtorEq,Nat.reduceAdd,Nat.reduceLeDiff,Int.reduceLT,Int.reduceLE,↓u_setN]
 rw [ek]
 exact NextQ.to (k+1) rfl (Store.sub_refl _) (by omega) (by omega)
end Go.Am
namespace Go.Am
open Go.Proofs Go.Sort
theorem k7a:decA false [64,1,1,3] = .error (6,[64,1,1,3]):=by
 have e1:chunk [64,1,1,3]=some ⟨64,1,[3],[64,1,1,3],[]⟩:=by rfl
 have h:decL false 4 [64,1,1,3] zeroAt [] [] = .error (6,[64,1,1,3]):=by
  simp only [decL,e1];rfl
 simp only [decA]
 rw [show ([64,1,1,3]:List Int).length=4 from rfl,h]
theorem k7b:∃ a,decA false [64,1,1,2] = .ok (a,[1])∧a.org=2:=by
 have e1:chunk [64,1,1,2]=some ⟨64,1,[2],[64,1,1,2],[]⟩:=by rfl
 have h:decL false 4 [64,1,1,2] zeroAt [] [] = .ok ({ zeroAt with org:=2 },[1]):=by
  simp only [decL,e1];rfl
 refine ⟨canonA { zeroAt with org:=2 },?_,rfl⟩
 simp only [decA]
 rw [show ([64,1,1,2]:List Int).length=4 from rfl,h]
 simp
set_option maxHeartbeats 1000000 in
theorem c17:Pur Tryz.prog 17 [] (.bool true):=by
 refine zj Tst.F17 (by simp [Tst.F17,Fn.mkX]) fun σ => ?_
 simp only [Tst.F17,Fn.mkX,Tst.b17]
 rw [show [AV.int .i64 0,.nils,.int .u32 0,.bool false,.int .u32 0,.bool false,.int .u32 0,.bool false,.nils]=zC from rfl,show [AV.int .i64 0,.int .i64 0,.nils]=zN from rfl]
 obtain ⟨b2,hb2,hbo⟩:=k7b
 have e9:∀ x:At,x.c.length=9:=fun _=>rfl
 have spZ:∀ x:At,splice 0 x.c zC=some x.c:=fun _=>rfl
 have szn:∀ x y z:AV,splice 0 [x,y,z] zN=some [x,y,z]:=fun _ _ _=>rfl
 simp only [z5i,↓vcPre,↓z0,↓reduceIte,vcPost,vcStd,Nat.reduceEqDiff,reduceCtorEq,Nat.reduceAdd,Nat.reduceLeDiff,Int.reduceLT,Int.reduceLE,↓u_setN]
 refine AllocQ.i0 fun q1 hq1 => ?_
 simp only [↓vcPre,↓z0,↓reduceIte,vcPost,vcStd,Nat.reduceEqDiff,reduceCtorEq,Nat.reduceAdd,Nat.reduceLeDiff,Int.reduceLT,Int.reduceLE,↓u_setN]
 have sT:=Store.sub_set σ q1 (.arr 1 [[.int .u8 64],[.int .u8 1],[.int .u8 1],[.int .u8 3]]) hq1
 have T1:(σ.set q1 (.arr 1 [[.int .u8 64],[.int .u8 1],[.int .u8 1],[.int .u8 3]])) q1=some (.arr 1 (([64,1,1,3]:List Int).map cB)):=Store.set_same _ _ _
 generalize σ.set q1 (.arr 1 [[.int .u8 64],[.int .u8 1],[.int .u8 1],[.int .u8 3]])=T at sT T1 ⊢
 have u3:U8s [64,1,1,3]:=by intro x hx;simp only [List.mem_cons,List.not_mem_nil,or_false] at hx;omega
 have u2:U8s [64,1,1,2]:=by intro x hx;simp only [List.mem_cons,List.not_mem_nil,or_false] at hx;omega
 have D1:=s28 (Rd.os T1) (by simp) u3 false
 rw [k7a] at D1
 refine D1.Q ?_
 rintro r t ⟨rfl,rfl⟩
 simp only [outD]
 simp only [↓vcPre,↓z0,↓reduceIte,vcPost,vcStd,Nat.reduceEqDiff,reduceCtorEq,Nat.reduceAdd,Nat.reduceLeDiff,Int.reduceLT,Int.reduceLE,↓u_setN]
 refine AllocQ.i0 fun p1 hp1 => ?_
 simp only [↓vcPre,↓z0,↓reduceIte,vcPost,vcStd,Nat.reduceEqDiff,reduceCtorEq,Nat.reduceAdd,Nat.reduceLeDiff,Int.reduceLT,Int.reduceLE,↓u_setN]
 refine AllocQ.i1 fun p3 h31 h13 hp3 => ?_
 simp only [h31,h13,e9,spZ,szn,↓vcPre,↓z0,↓reduceIte,vcPost,vcStd,Nat.reduceEqDiff,reduceCtorEq,Nat.reduceAdd,Nat.reduceLeDiff,Int.reduceLT,Int.reduceLE,↓u_setN]
 have sU:Store.sub t ((((t.set p1 (.box zC)).set p3 (.box zN)).set p1 (.box zeroAt.c)).set p3 (.box [.int .i64 3,.int .i64 6,.sl 1 (([64,1,1,3]:List Int).map cB)])):=z6 (z6 (zk hp1 hp3 h31) hp1) hp3
 have U3:((((t.set p1 (.box zC)).set p3 (.box zN)).set p1 (.box zeroAt.c)).set p3 (.box [.int .i64 3,.int .i64 6,.sl 1 (([64,1,1,3]:List Int).map cB)])) p3=some (.box [.int .i64 3,.int .i64 6,.sl 1 (([64,1,1,3]:List Int).map cB)]):=Store.set_same _ _ _
 generalize ((((t.set p1 (.box zC)).set p3 (.box zN)).set p1 (.box zeroAt.c)).set p3 (.box [.int .i64 3,.int .i64 6,.sl 1 (([64,1,1,3]:List Int).map cB)]))=U at sU U3 ⊢
 simp only [z5i,↓vcPre,↓z0,↓reduceIte,vcPost,vcStd,Nat.reduceEqDiff,reduceCtorEq,Nat.reduceAdd,Nat.reduceLeDiff,Int.reduceLT,Int.reduceLE,↓u_setN]
 refine AllocQ.i0 fun q2 hq2 => ?_
 simp only [↓vcPre,↓z0,↓reduceIte,vcPost,vcStd,Nat.reduceEqDiff,reduceCtorEq,Nat.reduceAdd,Nat.reduceLeDiff,Int.reduceLT,Int.reduceLE,↓u_setN]
 have sV:=Store.sub_set U q2 (.arr 1 [[.int .u8 64],[.int .u8 1],[.int .u8 1],[.int .u8 2]]) hq2
 have V1:(U.set q2 (.arr 1 [[.int .u8 64],[.int .u8 1],[.int .u8 1],[.int .u8 2]])) q2=some (.arr 1 (([64,1,1,2]:List Int).map cB)):=Store.set_same _ _ _
 generalize U.set q2 (.arr 1 [[.int .u8 64],[.int .u8 1],[.int .u8 1],[.int .u8 2]])=V at sV V1 ⊢
 have D2:=s28 (Rd.os V1) (by simp) u2 false
 rw [hb2] at D2
 refine D2.Q ?_
 rintro r w ⟨rfl,rfl⟩
 simp only [outD]
 simp only [↓vcPre,↓z0,↓reduceIte,vcPost,vcStd,Nat.reduceEqDiff,reduceCtorEq,Nat.reduceAdd,Nat.reduceLeDiff,Int.reduceLT,Int.reduceLE,↓u_setN]
 refine AllocQ.i0 fun p4 hp4 => ?_
 simp only [↓vcPre,↓z0,↓reduceIte,vcPost,vcStd,Nat.reduceEqDiff,reduceCtorEq,Nat.reduceAdd,Nat.reduceLeDiff,Int.reduceLT,Int.reduceLE,↓u_setN]
 refine AllocQ.i1 fun p6 h64 h46 hp6 => ?_
 simp only [h64,h46,e9,spZ,szn,↓vcPre,↓z0,↓reduceIte,vcPost,vcStd,Nat.reduceEqDiff,reduceCtorEq,Nat.reduceAdd,Nat.reduceLeDiff,Int.reduceLT,Int.reduceLE,↓u_setN]
 have sW:Store.sub w ((((w.set p4 (.box zC)).set p6 (.box zN)).set p4 (.box b2.c)).set p6 (.box [.int .i64 0,.int .i64 0,.sl 1 []])):=z6 (z6 (zk hp4 hp6 h64) hp4) hp6
 have W6:((((w.set p4 (.box zC)).set p6 (.box zN)).set p4 (.box b2.c)).set p6 (.box [.int .i64 0,.int .i64 0,.sl 1 []])) p6=some (.box [.int .i64 0,.int .i64 0,.sl 1 []]):=Store.set_same _ _ _
 generalize ((((w.set p4 (.box zC)).set p6 (.box zN)).set p4 (.box b2.c)).set p6 (.box [.int .i64 0,.int .i64 0,.sl 1 []]))=W at sW W6 ⊢
 have W3:=sW _ _ (sV _ _ U3)
 have hσW:Store.sub σ W:=Store.sub_trans sT (Store.sub_trans sU (Store.sub_trans sV sW))
 have hx:∀ s:Store,Rd 1 s (([64,1,1,3]:List Int).map cB) (.sl 1 (([64,1,1,3]:List Int).map cB)):=fun _=>Rd.sl
 have l1:=z1m (hx W) (Store.sub_refl _)
 have hby:(byL [64,1,1,3]).toArray = #[64,1,1,3]:=rfl
 rw [hby] at l1
 have eqq:pv (.eqs false) [.str ⟨#[64,1,1,3]⟩,.str ⟨#[64,1,1,3]⟩]=some (.bool true):=by simp [pv,pEqs]
 have tk:List.take 1 b2.c=[.int .i64 2]:=by show [AV.int .i64 b2.org]=_;rw [hbo]
 simp only [W3,l1,eqq,tk,↓vcPre,↓z0,↓reduceIte,vcPost,vcStd,Nat.reduceEqDiff,reduceCtorEq,Nat.reduceAdd,Nat.reduceLeDiff,Int.reduceLT,Int.reduceLE,↓u_setN]
 refine AllocQ.i0 fun d hd => ?_
 simp only [↓vcPre,↓z0,↓reduceIte,vcPost,vcStd,Nat.reduceEqDiff,reduceCtorEq,Nat.reduceAdd,Nat.reduceLeDiff,Int.reduceLT,Int.reduceLE,↓u_setN]
 have hD:=Store.sub_set W d (.arr 1 [[.int .i64 1]]) hd
 have Dd:(W.set d (.arr 1 [[.int .i64 1]])) d=some (.arr 1 [[.int .i64 1]]):=Store.set_same _ _ _
 have D6:=hD _ _ W6
 have hsame:ACalls Tryz.prog 30 [.sl 1 (([1]:List Int).map cI),.os d 1 0 1] (W.set d (.arr 1 [[.int .i64 1]])) (fun r s=>r = .bool true∧Store.sub W s):=by
  refine ACalls.weakArgs (c30 [1] (by simp) W).1 (WeakL.freeze 1 rfl Dd (by simp) (WeakL.pure ?_))
  refine (c30 [1] (by simp) _).mono fun r s ⟨x,y⟩=>⟨by first | exact y | exact x,by subst_vars;exact sub_del hD hd⟩
 refine hsame.Q ?_
 rintro r y ⟨rfl,hy⟩
 have Y6:=hy _ _ W6
 simp only [Y6,↓vcPre,↓z0,↓reduceIte,vcPost,vcStd,Nat.reduceEqDiff,reduceCtorEq,Nat.reduceAdd,Nat.reduceLeDiff,Int.reduceLT,Int.reduceLE,↓u_setN]
 refine (c31 16777216).Q ?_
 rw [show decide (goodN 16777216)=true by decide]
 simp only [↓vcPre,↓z0,↓reduceIte,vcPost,vcStd,Nat.reduceEqDiff,reduceCtorEq,Nat.reduceAdd,Nat.reduceLeDiff,Int.reduceLT,Int.reduceLE,↓u_setN]
 refine (c31 2130706433).Q ?_
 rw [show decide (goodN 2130706433)=false by decide]
 simp only [↓vcPre,↓z0,↓reduceIte,vcPost,vcStd,Nat.reduceEqDiff,reduceCtorEq,Nat.reduceAdd,Nat.reduceLeDiff,Int.reduceLT,Int.reduceLE,↓u_setN]
 exact Store.sub_trans hσW hy
end Go.Am
namespace Go.Am
open Go.Proofs Go.Sort
theorem z2r (l:List Int):U8s (encW l):=by
 intro x hx
 simp only [encW,List.mem_flatMap] at hx
 obtain ⟨n,_,h⟩:=hx
 exact z0z n x h
theorem z3i (l:List Seg):U8s (encPath l):=by
 intro x hx
 simp only [encPath,List.mem_flatMap] at hx
 obtain ⟨s,_,h⟩:=hx
 simp only [encSeg,List.mem_append,List.mem_cons,List.not_mem_nil,or_false] at h
 rcases h with (rfl | rfl) | h
 ·omega
 ·omega
 ·exact z2r _ x h
theorem z3h {l:List Seg} (h:∀ s ∈ l,s.ls.length≤5):(encPath l).length≤22*l.length:=by
 induction l with
 | nil=>simp [encPath]
 | cons s l ih =>
   have h1:=h s (by simp)
   have h2:=ih fun x hx=>h x (by simp [hx])
   have h3:=y9 s.ls
   simp only [encPath,List.flatMap_cons,List.length_append,encSeg,List.length_cons,List.length_nil] at h2 ⊢
   omega
theorem xa {fl k:Int} {v:List Int} (h1:0≤fl∧fl<240) (h2:0≤k∧k<256) (h3:U8s v):U8s (oneA fl k v):=by
 intro x hx
 unfold oneA at hx
 rcases List.mem_append.1 hx with h | h
 ·split at h
  ·simp only [List.mem_cons,List.not_mem_nil,or_false] at h;omega
  ·simp only [List.mem_cons,List.not_mem_nil,or_false] at h;omega
 ·exact h3 x h
theorem z7o (a:At):U8s (encA a):=by
 have e1:U8s (oneA 64 1 [a.org % 256]):=xa (by omega) (by omega) fun x hx=>by simp only [List.mem_singleton] at hx;omega
 have e2:=xa (fl:=64) (k:=2) (by omega) (by omega) (z3i a.path)
 have e3:=xa (fl:=64) (k:=3) (by omega) (by omega) (z0z a.nxt)
 have e4:U8s (if a.hm then oneA 128 4 (b4 a.med) else []):=by
  split
  ·exact xa (by omega) (by omega) (z0z _)
  ·intro x hx;simp at hx
 have e5:U8s (if a.hp then oneA 64 5 (b4 a.prf) else []):=by
  split
  ·exact xa (by omega) (by omega) (z0z _)
  ·intro x hx;simp at hx
 have e6:U8s (if a.atm then oneA 64 6 [] else []):=by
  split
  ·exact xa (by omega) (by omega) fun x hx=>by simp at hx
  ·intro x hx;simp at hx
 have e8:U8s (if a.cms=[] then [] else oneA 192 8 (encW a.cms)):=by
  split
  ·intro x hx;simp at hx
  ·exact xa (by omega) (by omega) (z2r _)
 unfold encA
 exact (((((e1.append e2).append e3).append e4).append e5).append e6).append e8
theorem yi (fl k:Int) (v:List Int):3≤(oneA fl k v).length∧(oneA fl k v).length≤4+v.length:=by
 rw [vf];split <;> omega
theorem qr (a:At):4≤(encA (rightK a)).length∧(encA (rightK a)).length≤1000:=by
 have hp:(rightK a).path.length≤4∧∀ s ∈ (rightK a).path,s.ls.length≤5:=by
  constructor
  ·have:=List.length_filter_le okS ((a.path.take 4).map cutS)
   simp only [rightK,canonA,rightP]
   simp only [List.length_map,List.length_take] at this
   omega
  ·intro s hs
   simp only [rightK,canonA,rightP] at hs
   have h2:=(List.mem_filter.mp hs).1
   simp only [List.mem_map] at h2
   obtain ⟨x,_,rfl⟩:=h2
   unfold cutS;simp only [List.length_take];omega
 have hc:(rightK a).cms.length≤5:=by
  simp only [rightK,canonA]
  have:=xp (a.cms.take 5)
  simp only [List.length_take] at this
  omega
 generalize rightK a=r at hp hc ⊢
 have h1:=z3h hp.2
 have h2:=y9 r.cms
 have b:∀ n,(b4 n).length=4:=fun _=>rfl
 unfold encA
 simp only [List.length_append]
 have z1:=yi 64 1 [r.org % 256]
 have z1e:(oneA 64 1 [r.org % 256]).length=4:=rfl
 have z2:=yi 64 2 (encPath r.path)
 have z3:=yi 64 3 (b4 r.nxt)
 have z3b:=b r.nxt
 have q4:(if r.hm=true then oneA 128 4 (b4 r.med) else []).length≤8:=by
  split
  ·have:=(yi 128 4 (b4 r.med)).2;have:=(yi 64 5 (b4 r.prf)).2;have:=b r.med;have:=b r.prf;omega
  ·simp
 have q5:(if r.hp=true then oneA 64 5 (b4 r.prf) else []).length≤8:=by
  split
  ·have:=(yi 128 4 (b4 r.med)).2;have:=(yi 64 5 (b4 r.prf)).2;have:=b r.med;have:=b r.prf;omega
  ·simp
 have q6:(if r.atm=true then oneA 64 6 [] else []).length≤8:=by
  split
  ·have:=(yi 64 6 []).2;simp only [List.length_nil] at this;omega
  ·simp
 have q8:(if r.cms=[] then [] else oneA 192 8 (encW r.cms)).length≤24:=by
  split
  ·simp
  ·have:=(yi 192 8 (encW r.cms)).2;omega
 omega
end Go.Am
namespace Go.Am
open Go.Proofs Go.Sort
theorem za0:[AV.int .i64 0,.nils,.int .u32 0,.bool false,.int .u32 0,.bool false,.int .u32 0,.bool false,.nils]=zC:=rfl
theorem za1:[AV.int .i64 0,.int .i64 0,.nils]=zN:=rfl
theorem qt (a:At):encOk (shortA a):=by
 refine ⟨by simp only [shortA,List.length_map,List.length_take];omega,fun s hs => ?_,by simp only [shortA,List.length_take];omega⟩
 simp only [shortA,List.mem_map] at hs
 obtain ⟨x,_,rfl⟩:=hs
 simp only [shortS,List.length_take];omega
theorem encOk.ok {a:At} (h:encOk a):a.ok:=⟨by have:=h.1;omega,fun s hs=>by have:=h.2.1 s hs;show s.ls.length≤_;omega,by have:=h.2.2;omega⟩
theorem z4z (a:At):encOk (rightK (shortA a))∧(rightK (shortA a)).path.length≤4∧(∀ s ∈ (rightK (shortA a)).path,s.ls.length≤5)∧(rightK (shortA a)).cms.length≤5:=by
 have h1:(rightK (shortA a)).path.length≤4:=by
  have:=List.length_filter_le okS (((shortA a).path.take 4).map cutS)
  simp only [rightK,canonA,rightP]
  simp only [List.length_map,List.length_take] at this
  omega
 have h2:∀ s ∈ (rightK (shortA a)).path,s.ls.length≤5:=fun s hs=>by
  simp only [rightK,canonA,rightP] at hs
  have h2:=(List.mem_filter.mp hs).1
  simp only [List.mem_map] at h2
  obtain ⟨x,_,rfl⟩:=h2
  unfold cutS;simp only [List.length_take];omega
 have h3:(rightK (shortA a)).cms.length≤5:=by
  simp only [rightK,canonA]
  have:=xp ((shortA a).cms.take 5)
  simp only [List.length_take] at this
  omega
 exact ⟨⟨by omega,fun s hs=>by have:=h2 s hs;omega,by omega⟩,h1,h2,h3⟩
end Go.Am
namespace Go.Am
open Go.Proofs Go.Sort
theorem zap {σ:Store} {l m:List Int} {v w:AV} (hv:Rd 1 σ (l.map cI) v) (hw:Rd 1 σ (m.map cI) w) (hl:l.length≤1000000) (hm:m.length≤1000000):ACalls Tryz.prog 30 [v,w] σ (fun r s=>s=σ∧r = .bool (decide (l=m))):=by
 refine zf Tst.F30 (by simp [Tst.F30,Fn.mkX]) ?_
 simp only [Tst.F30,Fn.mkX,Tst.b30]
 have lv:pv .len [v]=some (.int .i64 (l.length:Int)):=by rw [hv.2];simp
 have lw:pv .len [w]=some (.int .i64 (m.length:Int)):=by rw [hw.2];simp
 simp only [lv,lw,↓vcPre,↓z0,↓reduceIte,vcPost,vcStd,Nat.reduceEqDiff,reduceCtorEq,Nat.reduceAdd,Nat.reduceLeDiff,Int.reduceLT,Int.reduceLE,↓u_setN]
 refine ⟨fun c1 => ?_,fun c1 => ?_⟩
 ·exact EndQ.to σ _ rfl (Store.sub_refl _) ⟨rfl,by rw [decide_eq_false (fun e=>c1 (by rw [e]))]⟩
 ·have hlm:l.length=m.length:=by omega
  refine LoopQ.inv (S:=Nat) (fun k=>[(0,v),(1,w),(5,.int .i64 (k:Int))]) (fun _=>σ) (fun k=>k≤l.length∧l.take k=m.take k) (fun k=>l.length+1 - k) 0 rfl (Store.sub_refl _) ⟨by omega,by simp⟩ ?_
  rintro k ⟨hk,hE⟩
  simp only [lv,lw,↓vcPre,↓z0,↓reduceIte,vcPost,vcStd,Nat.reduceEqDiff,reduceCtorEq,Nat.reduceAdd,Nat.reduceLeDiff,Int.reduceLT,Int.reduceLE,↓u_setN]
  refine ⟨fun c2 => ?_,fun c2 => ?_⟩
  ·have ek:IntKind.i64.wrap ((k:Int)+1)=((k+1:Nat):Int):=by rw [ze (by unfold I64;omega)];omega
   obtain ⟨p,hp,hp2⟩:=hv.at (k:=k) (by simp;omega)
   obtain ⟨q,hq,hq2⟩:=hw.at (k:=k) (by simp;omega)
   have r1:=hp2 σ (Store.sub_refl _) 1
   have r2:=hq2 σ (Store.sub_refl _) 1
   simp only [List.getElem_map] at r1 r2
   have hkl:k<l.length:=by omega
   have hkm:k<m.length:=by omega
   simp only [hp,hq,r1,r2,cI,↓vcPre,↓z0,↓reduceIte,vcPost,vcStd,Nat.reduceEqDiff,reduceCtorEq,Nat.reduceAdd,Nat.reduceLeDiff,Int.reduceLT,Int.reduceLE,↓u_setN]
   refine ⟨fun c3 => ?_,fun c3 => ?_⟩
   ·refine EndQ.to σ _ rfl (Store.sub_refl _) ⟨rfl,?_⟩
    rw [decide_eq_false]
    intro e
    subst e
    exact c3 rfl
   ·rw [ek]
    refine NextQ.to (k+1) rfl (Store.sub_refl _) (by omega) ⟨by omega,?_⟩
    have c3':l[k]=m[k]:=by omega
    rw [List.take_succ_eq_append_getElem hkl,List.take_succ_eq_append_getElem hkm,hE,c3']
  ·refine EndQ.to σ _ rfl (Store.sub_refl _) ⟨rfl,?_⟩
   have:k=l.length:=by omega
   subst this
   rw [List.take_length,hlm,List.take_length] at hE
   rw [decide_eq_true hE]
end Go.Am
namespace Go.Am.Tso2
open Go.Proofs Go.Am.B
def t6_120:BC:=z [m 120 10,m 121 16,g 122 30 [.t 120,.t 121],m 123 122,⟨some 124,some (123,true),.pure (.mov),[.t 13]⟩,⟨some 125,some (123,true),.pure (.mov),[.t 17]⟩,⟨some 126,some (123,true),.loud (.call 30),[.t 124,.t 125]⟩,⟨some 127,none,.pick,[.t 123,.t 126,.c (.bool false)]⟩,m 128 127,⟨some 129,some (128,true),.loud (.call 17),[]⟩,⟨some 130,none,.pick,[.t 128,.t 129,.c (.bool false)]⟩,m 4 130] [4] .ret
def t6_110:BC := .seq (z [f 110 8 2,l 111 1 110,u 112 .len 111,c 113 .gtr 112 0] [10,13,16,17,113] (.cond (.t 113) (z [m 114 16,⟨some 115,none,.alloc (.mksl 1 1),[.c (.int .i64 8)]⟩,⟨some 116,none,.loud (.app 1 8),[.t 114,.t 115]⟩,m 16 116] [10,13,16,17] (.ops [m 117 17,⟨some 118,none,.alloc (.mksl 1 1),[.c (.int .i64 8)]⟩,⟨some 119,none,.loud (.app 1 8),[.t 117,.t 118]⟩,m 17 119] [10,13,16,17])) .skip)) t6_120
def t6_102:BC := .seq (z [f 102 7 2,l 103 1 102] [2,10,13,16,17,103] (.cond (.t 103) (z [m 104 16,⟨some 105,none,.alloc (.mksl 1 1),[.c (.int .i64 6)]⟩,⟨some 106,none,.loud (.app 1 8),[.t 104,.t 105]⟩,m 16 106] [2,10,13,16,17] (.ops [m 107 17,⟨some 108,none,.alloc (.mksl 1 1),[.c (.int .i64 6)]⟩,⟨some 109,none,.loud (.app 1 8),[.t 107,.t 108]⟩,m 17 109] [2,10,13,16,17])) .skip)) t6_110
def t6_97:BC := .seq (z [f 97 5 2,l 98 1 97] [2,10,13,16,17,98] (.cond (.t 98) (.ops [m 99 16,⟨some 100,none,.alloc (.mksl 1 1),[.c (.int .i64 5)]⟩,⟨some 101,none,.loud (.app 1 8),[.t 99,.t 100]⟩,m 16 101] [2,10,13,16,17]) .skip)) t6_102
def t6_94:BC:=z [⟨some 94,none,.alloc (.mksl 1 0),[]⟩,m 95 16,⟨some 96,none,.loud (.app 1 8),[.t 94,.t 95]⟩,m 17 96] [2,10,13,16,17] t6_97
def b6:BC:=z [⟨some 2,none,.alloc (.box),[.t 0]⟩,⟨some 3,none,.alloc (.box),[.t 1]⟩,k 4 (.bool false)] [2,3] (z [⟨some 18,none,.load (.ld 9 true),[.t 2]⟩,⟨some 21,none,.load (.ld 9 true),[.t 3]⟩,⟨some 19,none,.qcall 13,[.t 18]⟩,⟨some 20,none,.qcall 12,[.t 19]⟩,⟨some 22,none,.qcall 13,[.t 21]⟩,⟨some 23,none,.qcall 12,[.t 22]⟩,s 9 2 20,s 9 3 23] [2,3] (z [⟨some 25,none,.load (.ld 9 true),[.t 2]⟩,g 26 27 [.t 25],m 24 26,e 27 0 24,e 28 1 24,m 5 27,m 6 28] [2,3,5,6] (z [⟨some 30,none,.load (.ld 9 true),[.t 3]⟩,g 31 27 [.t 30],m 29 31,e 32 0 29,e 33 1 29,m 7 32,m 8 33] [2,3,5,6,7,8] (z [m 35 5,g 36 28 [.t 35,.c (.bool true)],m 34 36,e 37 0 34,e 38 1 34,e 39 2 34,⟨some 9,none,.alloc (.alloc [(.int .i64 0),.nils,(.int .u32 0),(.bool false),(.int .u32 0),(.bool false),(.int .u32 0),(.bool false),.nils]),[]⟩,⟨some 11,none,.alloc (.alloc [(.int .i64 0),(.int .i64 0),.nils]),[]⟩,s 9 9 37,m 10 38,s 3 11 39] [2,3,5,6,7,8,9,10,11] (z [m 41 5,g 42 28 [.t 41,.c (.bool false)],m 40 42,e 43 0 40,e 44 1 40,e 45 2 40,⟨some 12,none,.alloc (.alloc [(.int .i64 0),.nils,(.int .u32 0),(.bool false),(.int .u32 0),(.bool false),(.int .u32 0),(.bool false),.nils]),[]⟩,⟨some 14,none,.alloc (.alloc [(.int .i64 0),(.int .i64 0),.nils]),[]⟩,s 9 12 43,m 13 44,s 3 14 45] [2,3,5,6,7,8,9,10,11,12,13,14] (z [⟨some 46,none,.load (.ld 9 true),[.t 2]⟩,⟨some 15,none,.alloc (.alloc [(.int .i64 0),.nils,(.int .u32 0),(.bool false),(.int .u32 0),(.bool false),(.int .u32 0),(.bool false),.nils]),[]⟩,s 9 15 46] [2,3,5,6,7,8,9,10,11,12,13,14,15] (z [f 47 5 15,⟨none,none,.loud (.st 1),[.t 47,.c (.bool false)]⟩,f 48 6 15,⟨none,none,.loud (.st 1),[.t 48,.c (.int .u32 0)]⟩] [2,3,5,6,7,8,9,10,11,12,13,14,15] (.seq (z [m 49 6,c 50 .neq 49 0,m 51 50,⟨some 52,some (51,false),.pure (.mov),[.t 8]⟩,⟨some 53,some (51,false),.pure (.bin .neq),[.t 52,.c (.int .i64 0)]⟩,⟨some 54,none,.pick,[.t 51,.c (.bool true),.t 53]⟩,m 55 54,⟨some 56,some (55,false),.pure (.fld 0),[.t 11]⟩,⟨some 57,some (55,false),.load (.ld 1 false),[.t 56]⟩,⟨some 58,some (55,false),.pure (.bin .neq),[.t 57,.c (.int .i64 0)]⟩,⟨some 59,none,.pick,[.t 55,.c (.bool true),.t 58]⟩,m 60 59,⟨some 61,some (60,false),.pure (.fld 0),[.t 14]⟩,⟨some 62,some (60,false),.load (.ld 1 false),[.t 61]⟩,⟨some 63,some (60,false),.pure (.bin .neq),[.t 62,.c (.int .i64 0)]⟩,⟨some 64,none,.pick,[.t 60,.c (.bool true),.t 63]⟩,m 65 64,⟨some 66,some (65,false),.load (.ld 9 true),[.t 9]⟩,⟨some 67,some (65,false),.load (.ld 9 true),[.t 2]⟩,⟨some 68,some (65,false),.qcall 29,[.t 66,.t 67]⟩,⟨some 69,some (65,false),.pure (.not),[.t 68]⟩,⟨some 70,none,.pick,[.t 65,.c (.bool true),.t 69]⟩,m 71 70,⟨some 72,some (71,false),.load (.ld 9 true),[.t 12]⟩,⟨some 73,some (71,false),.load (.ld 9 true),[.t 15]⟩,⟨some 74,some (71,false),.qcall 29,[.t 72,.t 73]⟩,⟨some 75,some (71,false),.pure (.not),[.t 74]⟩,⟨some 76,none,.pick,[.t 71,.c (.bool true),.t 75]⟩,m 77 76,⟨some 78,some (77,false),.pure (.mov),[.t 5]⟩,⟨some 80,some (77,false),.pure (.mov),[.t 7]⟩,⟨some 79,some (77,false),.load (.str),[.t 78]⟩,⟨some 81,some (77,false),.load (.str),[.t 80]⟩,⟨some 82,some (77,false),.pure (.eqs false),[.t 79,.t 81]⟩,⟨some 83,some (77,false),.load (.ld 9 true),[.t 2]⟩,⟨some 84,some (77,false),.load (.ld 9 true),[.t 3]⟩,⟨some 85,some (77,false),.qcall 29,[.t 83,.t 84]⟩,⟨some 86,some (77,false),.pure (.eqb true),[.t 82,.t 85]⟩,⟨some 87,none,.pick,[.t 77,.c (.bool true),.t 86]⟩] [2,10,13,87] (.cond (.t 87) (z [k 4 (.bool false)] [4] .ret) .skip)) (z [⟨some 88,none,.alloc (.mksl 1 3),[.c (.int .i64 1),.c (.int .i64 2),.c (.int .i64 3)]⟩,m 16 88] [2,10,13,16] (.seq (z [f 89 3 2,l 90 1 89] [2,10,13,16,90] (.cond (.t 90) (.ops [m 91 16,⟨some 92,none,.alloc (.mksl 1 1),[.c (.int .i64 4)]⟩,⟨some 93,none,.loud (.app 1 8),[.t 91,.t 92]⟩,m 16 93] [2,10,13,16]) .skip)) t6_94))))))))))
def F6:Fn Tryz.prog 6:=Fn.mkX false b6 [.t 4] 131 Tryz.f6 _ Tryz.func6 (by decide) rfl Tryz.ntmps6 (by kernel_rfl) (by kernel_rfl)
end Go.Am.Tso2
namespace Go.Am
open Go.Proofs Go.Sort
def Own2 (τ:Store) (L:List (List AV)) (v:AV) (M:List (List AV)) (w:AV) (s:Store):Prop:=∃ g h,¬ g=h∧v = .os g 1 0 L.length∧w = .os h 1 0 M.length∧τ g=none∧τ h=none∧s g=some (.arr 1 L)∧s h=some (.arr 1 M)
theorem Own2.mono {τ s s':Store} {L M:List (List AV)} {v w:AV} (h:Own2 τ L v M w s) (hs:Store.sub s s'):Own2 τ L v M w s':=by
 obtain ⟨g,h,h1,h2,h3,h4,h5,h6,h7⟩:=h
 exact ⟨g,h,h1,h2,h3,h4,h5,hs _ _ h6,hs _ _ h7⟩
theorem Own2.swap {τ s:Store} {L M:List (List AV)} {v w:AV} (h:Own2 τ L v M w s):Own2 τ M w L v s:=by
 obtain ⟨g,h,h1,h2,h3,h4,h5,h6,h7⟩:=h
 exact ⟨h,g,fun e=>h1 e.symm,h3,h2,h5,h4,h7,h6⟩
theorem Own2.app {bytes:Nat} {τ s:Store} {L M ys:List (List AV)} {v w wv:AV} {K:AV→Store→Prop} (hsub:Store.sub τ s) (ho:Own2 τ L v M w s) (hw:slc s 1 wv=some ys) (hsz:(L.length+ys.length)*bytes≤140737488355328)
 (h:∀ v' s',Store.sub τ s'→Own2 τ (L++ys) v' M w s'→K v' s'):appwp 1 bytes v wv s K:=by
 obtain ⟨g,k,h1,rfl,rfl,h4,h5,h6,h7⟩:=ho
 refine yw (zl h6 rfl) hw hsz fun j hj => ?_
 have hjg:¬ j=g:=fun e=>by subst e;rw [hj] at h6;cases h6
 have hjk:¬ j=k:=fun e=>by subst e;rw [hj] at h7;cases h7
 refine h _ _ (z6 (sub_del hsub h4) (zi hsub hj)) ⟨j,k,hjk,by simp,rfl,zi hsub hj,h5,Store.set_same _ _ _,?_⟩
 rw [Store.set_ne _ _ (fun e=>hjk e.symm),Store.del_ne _ (fun e=>h1 e.symm)];exact h7
theorem Own2.rd {τ s:Store} {L M:List (List AV)} {v w:AV} (h:Own2 τ L v M w s):Rd 1 s L v∧Rd 1 s M w:=by
 obtain ⟨g,k,h1,rfl,rfl,h4,h5,h6,h7⟩:=h
 exact ⟨Rd.os h6,Rd.os h7⟩
def c5 (i:Bool) (a:At):List Int:=if a.hp && i then [5] else []
def c6 (a:At):List Int:=if a.atm then [6] else []
def c8 (a:At):List Int:=if a.cms=[] then [] else [8]
theorem yk (i:Bool) (a:At):(typesA i a).length≤7:=by
 unfold typesA
 cases i <;> cases a.hm <;> cases a.hp <;> cases a.atm <;> by_cases h:a.cms=[] <;> simp [h]
section
variable {r:At} {B t:Store} {p2:Nat} {v16 v17:AV} {W O:List Int} {n rr:Env→Store→Prop} {x:Nat→Env→Store→Prop}
theorem z0r (hs:Store.sub B t) (ho:Own2 B (W.map cI) v16 (O.map cI) v17 t) (hW:W=typesA true r) (hO:O=typesA false r) (E:List (Nat×AV)) (hE:E=[]∨∃ b,E=[(113,.bool b)])
 (hr:∀ t',Store.sub B t'→rr [(4,.bool true)] t'):bwp Tryz.prog Tso2.t6_120 ([(10,.sl 1 ((typesA true r).map cI)),(13,.sl 1 ((typesA false r).map cI)),(16,v16),(17,v17)]++E) t n rr x:=by
 simp only [Tso2.t6_120]
 have h1:=yk true r
 have h2:=yk false r
 obtain ⟨r1,r2⟩:=ho.rd
 rcases hE with rfl | ⟨b,rfl⟩
 all_goals
  simp only [↓vcPre,↓z0,↓reduceIte,vcPost,vcStd,Nat.reduceEqDiff,reduceCtorEq,Nat.reduceAdd,Nat.reduceLeDiff,Int.reduceLT,Int.reduceLE,↓u_setN]
  refine (zap Rd.sl r1 (by omega) (by rw [hW];omega)).Q ?_
  rintro q s ⟨rfl,rfl⟩
  rw [decide_eq_true hW.symm]
  simp only [↓vcPre,↓z0,↓reduceIte,vcPost,vcStd,Nat.reduceEqDiff,reduceCtorEq,Nat.reduceAdd,Nat.reduceLeDiff,Int.reduceLT,Int.reduceLE,↓u_setN]
  refine (zap Rd.sl r2 (by omega) (by rw [hO];omega)).Q ?_
  rintro q s ⟨rfl,rfl⟩
  rw [decide_eq_true hO.symm]
  simp only [↓vcPre,↓z0,↓reduceIte,vcPost,vcStd,Nat.reduceEqDiff,reduceCtorEq,Nat.reduceAdd,Nat.reduceLeDiff,Int.reduceLT,Int.reduceLE,↓u_setN]
  refine c17.Q ?_
  simp only [↓vcPre,↓z0,↓reduceIte,vcPost,vcStd,Nat.reduceEqDiff,reduceCtorEq,Nat.reduceAdd,Nat.reduceLeDiff,Int.reduceLT,Int.reduceLE,↓u_setN]
  exact hr _ hs
theorem z13 {W O:List Int} {k:Int} {q:Nat} (hs:Store.sub B t) (ho:Own2 B (W.map cI) v16 (O.map cI) v17 t) (hq:t q=none) (hW:W.length≤100) {K:AV→Store→Prop}
 (h:∀ v' s',Store.sub B s'→Own2 B ((W++[k]).map cI) v' (O.map cI) v17 s'→K v' s'):appwp 1 8 v16 (.os q 1 0 1) (t.set q (.arr 1 [[.int .i64 k]])) K:=by
 have h1:=Store.sub_set t q (.arr 1 [[.int .i64 k]]) hq
 refine Own2.app (τ:=B) (Store.sub_trans hs h1) (ho.mono h1) (zl (Store.set_same _ _ _) rfl) (by simp;omega) fun v' s' a b=>h v' s' a ?_
 rw [List.map_append];exact b
theorem z0q (hp:B p2=some (.box r.c)) (hs:Store.sub B t) (ho:Own2 B (W.map cI) v16 (O.map cI) v17 t) (hW:W++c8 r=typesA true r) (hO:O++c8 r=typesA false r) (hc:r.cms.length≤1000) (E:List (Nat×AV)) (hE:E=[]∨∃ b,E=[(103,.bool b)])
 (hr:∀ t',Store.sub B t'→rr [(4,.bool true)] t'):bwp Tryz.prog Tso2.t6_110 ([(2,.ptr p2 0),(10,.sl 1 ((typesA true r).map cI)),(13,.sl 1 ((typesA false r).map cI)),(16,v16),(17,v17)]++E) t n rr x:=by
 simp only [Tso2.t6_110]
 have tp:=hs _ _ hp
 have l8:List.take 1 (List.drop 8 r.c)=[.sl 1 (r.cms.map cU)]:=rfl
 have lW:W.length≤7:=by have:=yk true r;rw [←hW,List.length_append] at this;omega
 have lO:O.length≤7:=by have:=yk false r;rw [←hO,List.length_append] at this;omega
 rcases hE with rfl | ⟨b,rfl⟩
 all_goals
  simp only [tp,l8,↓vcPre,↓z0,↓reduceIte,vcPost,vcStd,Nat.reduceEqDiff,reduceCtorEq,Nat.reduceAdd,Nat.reduceLeDiff,Int.reduceLT,Int.reduceLE,↓u_setN]
  refine ⟨(by show _≤9;omega),fun g => ?_,fun g => ?_⟩
  ·have hc8:c8 r=[8]:=by unfold c8;rw [if_neg (fun e=>by rw [e] at g;simp at g)]
   rw [hc8] at hW hO
   refine AllocQ.i0 fun q hq => ?_
   simp only [↓vcPre,↓z0,↓reduceIte,vcPost,vcStd,Nat.reduceEqDiff,reduceCtorEq,Nat.reduceAdd,Nat.reduceLeDiff,Int.reduceLT,Int.reduceLE,↓u_setN]
   refine z13 hs ho hq (by omega) fun v' s' a b => ?_
   refine AllocQ.i0 fun q hq => ?_
   simp only [↓vcPre,↓z0,↓reduceIte,vcPost,vcStd,Nat.reduceEqDiff,reduceCtorEq,Nat.reduceAdd,Nat.reduceLeDiff,Int.reduceLT,Int.reduceLE,↓u_setN]
   refine z13 a b.swap hq (by omega) fun v2 s2 a2 b2 => ?_
   exact z0r a2 b2.swap hW hO [] (.inl rfl) hr
  ·have hc8:c8 r=[]:=by unfold c8;rw [if_pos (by cases h:r.cms with | nil=>rfl | cons x l=>rw [h] at g;simp at g)]
   rw [hc8,List.append_nil] at hW hO
   exact z0r hs ho hW hO [(113,.bool _)] (.inr ⟨_,rfl⟩) hr
theorem z0p (hp:B p2=some (.box r.c)) (hs:Store.sub B t) (ho:Own2 B (W.map cI) v16 (O.map cI) v17 t) (hW:W++c6 r++c8 r=typesA true r) (hO:O++c6 r++c8 r=typesA false r) (hc:r.cms.length≤1000) (E:List (Nat×AV)) (hE:E=[]∨∃ b,E=[(98,.bool b)])
 (hr:∀ t',Store.sub B t'→rr [(4,.bool true)] t'):bwp Tryz.prog Tso2.t6_102 ([(2,.ptr p2 0),(10,.sl 1 ((typesA true r).map cI)),(13,.sl 1 ((typesA false r).map cI)),(16,v16),(17,v17)]++E) t n rr x:=by
 simp only [Tso2.t6_102]
 have tp:=hs _ _ hp
 have l7:List.take 1 (List.drop 7 r.c)=[.bool r.atm]:=rfl
 have lW:W.length≤7:=by have:=yk true r;rw [←hW,List.length_append,List.length_append] at this;omega
 have lO:O.length≤7:=by have:=yk false r;rw [←hO,List.length_append,List.length_append] at this;omega
 rcases hE with rfl | ⟨b,rfl⟩
 all_goals
  simp only [tp,l7,↓vcPre,↓z0,↓reduceIte,vcPost,vcStd,Nat.reduceEqDiff,reduceCtorEq,Nat.reduceAdd,Nat.reduceLeDiff,Int.reduceLT,Int.reduceLE,↓u_setN]
  refine ⟨(by show _≤9;omega),fun g => ?_,fun g => ?_⟩
  ·have hc8:c6 r=[6]:=by unfold c6;rw [g];rfl
   rw [hc8] at hW hO
   refine AllocQ.i0 fun q hq => ?_
   simp only [↓vcPre,↓z0,↓reduceIte,vcPost,vcStd,Nat.reduceEqDiff,reduceCtorEq,Nat.reduceAdd,Nat.reduceLeDiff,Int.reduceLT,Int.reduceLE,↓u_setN]
   refine z13 hs ho hq (by omega) fun v' s' a b => ?_
   refine AllocQ.i0 fun q hq => ?_
   simp only [↓vcPre,↓z0,↓reduceIte,vcPost,vcStd,Nat.reduceEqDiff,reduceCtorEq,Nat.reduceAdd,Nat.reduceLeDiff,Int.reduceLT,Int.reduceLE,↓u_setN]
   refine z13 a b.swap hq (by omega) fun v2 s2 a2 b2 => ?_
   exact z0q hp a2 b2.swap hW hO hc [] (.inl rfl) hr
  ·have hc8:c6 r=[]:=by unfold c6;rw [g];rfl
   rw [hc8,List.append_nil] at hW hO
   exact z0q hp hs ho hW hO hc [(103,.bool _)] (.inr ⟨_,rfl⟩) hr
theorem z6v (hp:B p2=some (.box r.c)) (hs:Store.sub B t) (ho:Own2 B (W.map cI) v16 (O.map cI) v17 t) (hW:W++c5 true r++c6 r++c8 r=typesA true r) (hO:O++c6 r++c8 r=typesA false r) (hc:r.cms.length≤1000)
 (hr:∀ t',Store.sub B t'→rr [(4,.bool true)] t'):bwp Tryz.prog Tso2.t6_97 [(2,.ptr p2 0),(10,.sl 1 ((typesA true r).map cI)),(13,.sl 1 ((typesA false r).map cI)),(16,v16),(17,v17)] t n rr x:=by
 simp only [Tso2.t6_97]
 have tp:=hs _ _ hp
 have l5:List.take 1 (List.drop 5 r.c)=[.bool r.hp]:=rfl
 have lW:W.length≤7:=by have:=yk true r;rw [←hW,List.length_append,List.length_append,List.length_append] at this;omega
 simp only [tp,l5,↓vcPre,↓z0,↓reduceIte,vcPost,vcStd,Nat.reduceEqDiff,reduceCtorEq,Nat.reduceAdd,Nat.reduceLeDiff,Int.reduceLT,Int.reduceLE,↓u_setN]
 refine ⟨(by show _≤9;omega),fun g => ?_,fun g => ?_⟩
 ·have hc8:c5 true r=[5]:=by unfold c5;rw [g];rfl
  rw [hc8] at hW
  refine AllocQ.i0 fun q hq => ?_
  simp only [↓vcPre,↓z0,↓reduceIte,vcPost,vcStd,Nat.reduceEqDiff,reduceCtorEq,Nat.reduceAdd,Nat.reduceLeDiff,Int.reduceLT,Int.reduceLE,↓u_setN]
  refine z13 hs ho hq (by omega) fun v' s' a b => ?_
  exact z0p hp a b hW hO hc [] (.inl rfl) hr
 ·have hc8:c5 true r=[]:=by unfold c5;rw [g];rfl
  rw [hc8,List.append_nil] at hW
  exact z0p hp hs ho hW hO hc [(98,.bool _)] (.inr ⟨_,rfl⟩) hr
theorem z24 (hp:B p2=some (.box r.c)) (hs:Store.sub B t) (ho:Own 1 B (W.map cI) v16 t) (hW:W=[1,2,3]++(if r.hm then [4] else [])) (hc:r.cms.length≤1000) (E:List (Nat×AV)) (hE:E=[]∨∃ b,E=[(90,.bool b)])
 (hr:∀ t',Store.sub B t'→rr [(4,.bool true)] t'):bwp Tryz.prog Tso2.t6_94 ([(2,.ptr p2 0),(10,.sl 1 ((typesA true r).map cI)),(13,.sl 1 ((typesA false r).map cI)),(16,v16)]++E) t n rr x:=by
 simp only [Tso2.t6_94]
 have c4:∀ i:Bool,typesA i r=[1,2,3]++(if r.hm then [4] else [])++c5 i r++c6 r++c8 r:=fun _=>rfl
 have lW:W.length≤7:=by rw [hW];cases r.hm <;> simp
 have hWn:W≠[]:=by rw [hW];simp
 have o5:c5 false r=[]:=by unfold c5;simp
 rcases hE with rfl | ⟨b,rfl⟩
 all_goals
  simp only [↓vcPre,↓z0,↓reduceIte,vcPost,vcStd,Nat.reduceEqDiff,reduceCtorEq,Nat.reduceAdd,Nat.reduceLeDiff,Int.reduceLT,Int.reduceLE,↓u_setN]
  refine AllocQ.i0 fun d hd => ?_
  simp only [↓vcPre,↓z0,↓reduceIte,vcPost,vcStd,Nat.reduceEqDiff,reduceCtorEq,Nat.reduceAdd,Nat.reduceLeDiff,Int.reduceLT,Int.reduceLE,↓u_setN]
  have hsd:=Store.sub_set t d (.arr 1 []) hd
  refine Own.appM (τ:=t) hsd (Own.new (L:=[]) hd) ((Rd.own (ho.mono hsd)).1 _ (Store.sub_refl _)) (by simp;omega) fun v1 u1 hu1 ho1 => ?_
  have o2:Own2 B (W.map cI) v16 (W.map cI) v1 u1:=by
   rcases ho with ⟨h1,_⟩ | ⟨g,h1,h2,h3⟩
   ·exact absurd (List.map_eq_nil_iff.1 h1) hWn
   ·rcases ho1 with ⟨k1,_⟩ | ⟨g1,k1,k2,k3⟩
    ·exact absurd (by simpa using k1) hWn
    ·exact ⟨g,g1,(fun e=>by subst e;rw [k2] at h3;cases h3),h1,by simpa using k1,h2,zi hs k2,hu1 _ _ h3,by simpa using k3⟩
  exact z6v hp (Store.sub_trans hs hu1) o2 (by rw [hW];exact (c4 true).symm) (by rw [hW,c4 false,o5,List.append_nil]) hc hr
end
theorem zaq {A C:List Int} (hA:U8s A) (hC:U8s C):(byL A ==byL C)=decide (A=C):=by
 rw [Bool.eq_iff_iff,beq_iff_eq,decide_eq_true_eq]
 constructor
 ·intro h
  have inj:∀ (A C:List Int),U8s A→U8s C→byL A=byL C→A=C:=by
   intro A
   induction A with
   | nil=>intro C _ _ h;cases C with | nil=>rfl | cons=>simp [byL] at h
   | cons x A ih =>
     intro C hA hC h
     cases C with
     | nil=>simp [byL] at h
     | cons y C =>
       simp only [byL,List.map_cons,List.cons.injEq] at h
       have hx:=hA x (by simp)
       have hy:=hC y (by simp)
       have e:=congrArg UInt8.toNat h.1
       simp only [UInt8.toNat_ofNat'] at e
       rw [ih C (fun z hz=>hA z (by simp [hz])) (fun z hz=>hC z (by simp [hz])) h.2]
       congr 1
       omega
  exact inj A C hA hC h
 ·intro h;rw [h]
theorem z3j (a:At):U8s (encA a):=z7o a
set_option maxHeartbeats 1000000 in
theorem z88 (a b:At) (ha:I64 a.org) (na:okNums a) (hb:I64 b.org) (nb:okNums b):Pur Tryz.prog 6 [.agg a.c,.agg b.c] (.bool true):=by
 refine zj Tso2.F6 (by simp [Tso2.F6,Fn.mkX]) fun σ => ?_
 simp only [Tso2.F6,Fn.mkX,Tso2.b6,za0,za1]
 have e9:∀ x:At,x.c.length=9:=fun _=>rfl
 have t9:∀ x:At,List.take 9 x.c=x.c:=fun _=>rfl
 have spA:∀ x y:At,splice 0 x.c y.c=some x.c:=fun _ _=>rfl
 have spZ:∀ x:At,splice 0 x.c zC=some x.c:=fun _=>rfl
 have szn:∀ x y z:AV,splice 0 [x,y,z] zN=some [x,y,z]:=fun _ _ _=>rfl
 have sp5:∀ (x:At) (b:Bool),splice 5 [.bool b] x.c=some { x with hp:=b }.c:=fun _ _=>rfl
 have sp6:∀ (x:At) (b:Int),splice 6 [.int .u32 b] x.c=some { x with prf:=b }.c:=fun _ _=>rfl
 obtain ⟨hr,hrn⟩:=uu na
 obtain ⟨hre,hl1,hl2,hl3⟩:=z4z a
 have hry:=qr (shortA a)
 obtain ⟨hq,hqn⟩:=uu nb
 obtain ⟨hqe,_⟩:=z4z b
 have hqy:=qr (shortA b)
 simp only [↓vcPre,↓z0,↓reduceIte,vcPost,vcStd,Nat.reduceEqDiff,reduceCtorEq,Nat.reduceAdd,Nat.reduceLeDiff,Int.reduceLT,Int.reduceLE,↓u_setN]
 refine AllocQ.i0 fun i hi => ?_
 simp only [↓vcPre,↓z0,↓reduceIte,vcPost,vcStd,Nat.reduceEqDiff,reduceCtorEq,Nat.reduceAdd,Nat.reduceLeDiff,Int.reduceLT,Int.reduceLE,↓u_setN]
 refine AllocQ.i1 fun j hj1 hj2 hj => ?_
 simp only [e9,t9,Nat.le_refl,hj1,hj2,↓vcPre,↓z0,↓reduceIte,vcPost,vcStd,Nat.reduceEqDiff,reduceCtorEq,Nat.reduceAdd,Nat.reduceLeDiff,Int.reduceLT,Int.reduceLE,↓u_setN]
 refine (c13 a).Q ?_
 simp only [↓vcPre,↓z0,↓reduceIte,vcPost,vcStd,Nat.reduceEqDiff,reduceCtorEq,Nat.reduceAdd,Nat.reduceLeDiff,Int.reduceLT,Int.reduceLE,↓u_setN]
 refine (c12 _ (qt a).ok ha).Q ?_
 simp only [↓vcPre,↓z0,↓reduceIte,vcPost,vcStd,Nat.reduceEqDiff,reduceCtorEq,Nat.reduceAdd,Nat.reduceLeDiff,Int.reduceLT,Int.reduceLE,↓u_setN]
 refine (c13 b).Q ?_
 simp only [↓vcPre,↓z0,↓reduceIte,vcPost,vcStd,Nat.reduceEqDiff,reduceCtorEq,Nat.reduceAdd,Nat.reduceLeDiff,Int.reduceLT,Int.reduceLE,↓u_setN]
 refine (c12 _ (qt b).ok hb).Q ?_
 simp only [spA,e9,t9,Nat.le_refl,hj1,hj2,↓vcPre,↓z0,↓reduceIte,vcPost,vcStd,Nat.reduceEqDiff,reduceCtorEq,Nat.reduceAdd,Nat.reduceLeDiff,Int.reduceLT,Int.reduceLE,↓u_setN]
 generalize rightK (shortA a)=r at hr hrn hre hl1 hl2 hl3 hry ⊢
 generalize rightK (shortA b)=q at hq hqn hqe hqy ⊢
 have sT:Store.sub σ ((((σ.set i (.box a.c)).set j (.box b.c)).set i (.box r.c)).set j (.box q.c)):=z6 (z6 (zk hi hj hj1) hi) hj
 have Tj:((((σ.set i (.box a.c)).set j (.box b.c)).set i (.box r.c)).set j (.box q.c)) j=some (.box q.c):=Store.set_same _ _ _
 have Ti:((((σ.set i (.box a.c)).set j (.box b.c)).set i (.box r.c)).set j (.box q.c)) i=some (.box r.c):=by rw [Store.set_ne _ _ hj2];exact Store.set_same _ _ _
 generalize ((((σ.set i (.box a.c)).set j (.box b.c)).set i (.box r.c)).set j (.box q.c))=T at sT Ti Tj ⊢
 have ae:=c27 r hre.ok
 have be:=c27 q hqe.ok
 rw [if_pos hr,if_pos hr] at ae
 rw [if_pos hq,if_pos hq] at be
 refine ae.Q ?_
 simp only [Ti,Tj,e9,t9,Nat.le_refl,↓vcPre,↓z0,↓reduceIte,vcPost,vcStd,Nat.reduceEqDiff,reduceCtorEq,Nat.reduceAdd,Nat.reduceLeDiff,Int.reduceLT,Int.reduceLE,↓u_setN]
 refine be.Q ?_
 simp only [↓vcPre,↓z0,↓reduceIte,vcPost,vcStd,Nat.reduceEqDiff,reduceCtorEq,Nat.reduceAdd,Nat.reduceLeDiff,Int.reduceLT,Int.reduceLE,↓u_setN]
 have D1:=s28 (σ:=T) (B:=encA r) Rd.sl (by omega) (z3j r) true
 rw [uf hr hrn true] at D1
 refine D1.Q ?_
 rintro r1 w ⟨rfl,rfl⟩
 simp only [outD,List.map_nil]
 simp only [↓vcPre,↓z0,↓reduceIte,vcPost,vcStd,Nat.reduceEqDiff,reduceCtorEq,Nat.reduceAdd,Nat.reduceLeDiff,Int.reduceLT,Int.reduceLE,↓u_setN]
 refine AllocQ.i0 fun p9 hp9 => ?_
 simp only [↓vcPre,↓z0,↓reduceIte,vcPost,vcStd,Nat.reduceEqDiff,reduceCtorEq,Nat.reduceAdd,Nat.reduceLeDiff,Int.reduceLT,Int.reduceLE,↓u_setN]
 refine AllocQ.i1 fun p11 h119 h911 hp11 => ?_
 simp only [h119,h911,e9,spZ,szn,↓vcPre,↓z0,↓reduceIte,vcPost,vcStd,Nat.reduceEqDiff,reduceCtorEq,Nat.reduceAdd,Nat.reduceLeDiff,Int.reduceLT,Int.reduceLE,↓u_setN]
 have sU:Store.sub w ((((w.set p9 (.box zC)).set p11 (.box zN)).set p9 (.box (outA true r).c)).set p11 (.box [.int .i64 0,.int .i64 0,.sl 1 []])):=z6 (z6 (zk hp9 hp11 h119) hp9) hp11
 have U11:((((w.set p9 (.box zC)).set p11 (.box zN)).set p9 (.box (outA true r).c)).set p11 (.box [.int .i64 0,.int .i64 0,.sl 1 []])) p11=some (.box [.int .i64 0,.int .i64 0,.sl 1 []]):=Store.set_same _ _ _
 have U9:((((w.set p9 (.box zC)).set p11 (.box zN)).set p9 (.box (outA true r).c)).set p11 (.box [.int .i64 0,.int .i64 0,.sl 1 []])) p9=some (.box r.c):=by rw [Store.set_ne _ _ h911];exact Store.set_same _ _ _
 generalize ((((w.set p9 (.box zC)).set p11 (.box zN)).set p9 (.box (outA true r).c)).set p11 (.box [.int .i64 0,.int .i64 0,.sl 1 []]))=U at sU U11 U9 ⊢
 have D2:=s28 (σ:=U) (B:=encA r) Rd.sl (by omega) (z3j r) false
 rw [uf hr hrn false] at D2
 refine D2.Q ?_
 rintro r2 w2 ⟨rfl,rfl⟩
 simp only [outD,List.map_nil]
 simp only [↓vcPre,↓z0,↓reduceIte,vcPost,vcStd,Nat.reduceEqDiff,reduceCtorEq,Nat.reduceAdd,Nat.reduceLeDiff,Int.reduceLT,Int.reduceLE,↓u_setN]
 refine AllocQ.i0 fun p12 hp12 => ?_
 simp only [↓vcPre,↓z0,↓reduceIte,vcPost,vcStd,Nat.reduceEqDiff,reduceCtorEq,Nat.reduceAdd,Nat.reduceLeDiff,Int.reduceLT,Int.reduceLE,↓u_setN]
 refine AllocQ.i1 fun p14 h1412 h1214 hp14 => ?_
 simp only [h1412,h1214,e9,spZ,szn,↓vcPre,↓z0,↓reduceIte,vcPost,vcStd,Nat.reduceEqDiff,reduceCtorEq,Nat.reduceAdd,Nat.reduceLeDiff,Int.reduceLT,Int.reduceLE,↓u_setN]
 have sV:Store.sub w2 ((((w2.set p12 (.box zC)).set p14 (.box zN)).set p12 (.box (outA false r).c)).set p14 (.box [.int .i64 0,.int .i64 0,.sl 1 []])):=z6 (z6 (zk hp12 hp14 h1412) hp12) hp14
 have V14:((((w2.set p12 (.box zC)).set p14 (.box zN)).set p12 (.box (outA false r).c)).set p14 (.box [.int .i64 0,.int .i64 0,.sl 1 []])) p14=some (.box [.int .i64 0,.int .i64 0,.sl 1 []]):=Store.set_same _ _ _
 have V12:((((w2.set p12 (.box zC)).set p14 (.box zN)).set p12 (.box (outA false r).c)).set p14 (.box [.int .i64 0,.int .i64 0,.sl 1 []])) p12=some (.box { r with hp:=false,prf:=0 }.c):=by rw [Store.set_ne _ _ h1214];exact Store.set_same _ _ _
 generalize ((((w2.set p12 (.box zC)).set p14 (.box zN)).set p12 (.box (outA false r).c)).set p14 (.box [.int .i64 0,.int .i64 0,.sl 1 []]))=V at sV V14 V12 ⊢
 have V11:=sV _ _ U11
 have V9:=sV _ _ U9
 have Vi:=sV _ _ (sU _ _ Ti)
 have Vj:=sV _ _ (sU _ _ Tj)
 simp only [Vi,e9,t9,Nat.le_refl,↓vcPre,↓z0,↓reduceIte,vcPost,vcStd,Nat.reduceEqDiff,reduceCtorEq,Nat.reduceAdd,Nat.reduceLeDiff,Int.reduceLT,Int.reduceLE,↓u_setN]
 refine AllocQ.i0 fun p15 hp15 => ?_
 simp only [spZ,e9,t9,Nat.le_refl,sp5,sp6,↓vcPre,↓z0,↓reduceIte,vcPost,vcStd,Nat.reduceEqDiff,reduceCtorEq,Nat.reduceAdd,Nat.reduceLeDiff,Int.reduceLT,Int.reduceLE,↓u_setN]
 have sX:Store.sub V ((((V.set p15 (.box zC)).set p15 (.box r.c)).set p15 (.box { r with hp:=false }.c)).set p15 (.box { r with hp:=false,prf:=0 }.c)):=z6 (z6 (z6 (Store.sub_set V p15 _ hp15) hp15) hp15) hp15
 have X15:((((V.set p15 (.box zC)).set p15 (.box r.c)).set p15 (.box { r with hp:=false }.c)).set p15 (.box { r with hp:=false,prf:=0 }.c)) p15=some (.box { r with hp:=false,prf:=0 }.c):=Store.set_same _ _ _
 generalize ((((V.set p15 (.box zC)).set p15 (.box r.c)).set p15 (.box { r with hp:=false }.c)).set p15 (.box { r with hp:=false,prf:=0 }.c))=X at sX X15 ⊢
 have X14:=sX _ _ V14
 have X12:=sX _ _ V12
 have X11:=sX _ _ V11
 have X9:=sX _ _ V9
 have Xi:=sX _ _ Vi
 have Xj:=sX _ _ Vj
 simp only [X14,X12,X11,X9,Xi,Xj,X15,e9,t9,Nat.le_refl,↓vcPre,↓z0,↓reduceIte,vcPost,vcStd,Nat.reduceEqDiff,reduceCtorEq,Nat.reduceAdd,Nat.reduceLeDiff,Int.reduceLT,Int.reduceLE,↓u_setN]
 have sm1:=z1y r r hre.ok hre.ok
 rw [decide_eq_true rfl] at sm1
 refine sm1.Q ?_
 simp only [X14,X12,X11,X9,Xi,Xj,X15,e9,t9,Nat.le_refl,↓vcPre,↓z0,↓reduceIte,vcPost,vcStd,Nat.reduceEqDiff,reduceCtorEq,Nat.reduceAdd,Nat.reduceLeDiff,Int.reduceLT,Int.reduceLE,↓u_setN]
 have hoo:({ r with hp:=false,prf:=0 }:At).ok:=hre.ok
 have sm2:=z1y { r with hp:=false,prf:=0 } { r with hp:=false,prf:=0 } hoo hoo
 rw [decide_eq_true rfl] at sm2
 refine sm2.Q ?_
 have l1:=z1m (τ:=X) (L:=encA r) Rd.sl (Store.sub_refl _)
 have l2:=z1m (τ:=X) (L:=encA q) Rd.sl (Store.sub_refl _)
 simp only [X14,X12,X11,X9,Xi,Xj,X15,e9,t9,Nat.le_refl,l1,l2,zd6,↓vcPre,↓z0,↓reduceIte,vcPost,vcStd,Nat.reduceEqDiff,reduceCtorEq,Nat.reduceAdd,Nat.reduceLeDiff,Int.reduceLT,Int.reduceLE,↓u_setN]
 have sm3:=z1y r q hre.ok hqe.ok
 rw [xz hr,xz hq] at sm3
 refine sm3.Q ?_
 have hbe:(byL (encA r) ==byL (encA q))=decide (r=q):=by
  rw [zaq (z3j r) (z3j q),Bool.eq_iff_iff,decide_eq_true_eq,decide_eq_true_eq]
  exact ⟨fun h=>z7p hr hq hrn hqn h,fun h=>by rw [h]⟩
 rw [hbe]
 have bn:∀ c:Bool,(c != c)=false:=fun c=>by cases c <;> rfl
 simp only [bn,z9f,↓vcPre,↓z0,↓reduceIte,vcPost,vcStd,Nat.reduceEqDiff,reduceCtorEq,Nat.reduceAdd,Nat.reduceLeDiff,Int.reduceLT,Int.reduceLE,↓u_setN]
 refine AllocQ.i0 fun g0 hg0 => ?_
 have sσX:Store.sub σ X:=Store.sub_trans sT (Store.sub_trans sU (Store.sub_trans sV sX))
 have hG:=Store.sub_set X g0 (.arr 1 [[.int .i64 1],[.int .i64 2],[.int .i64 3]]) hg0
 have Gi:=hG _ _ Xi
 have oG:Own 1 X (([1,2,3]:List Int).map cI) (.os g0 1 0 3) (X.set g0 (.arr 1 [[.int .i64 1],[.int .i64 2],[.int .i64 3]])):=Own.new (L:=[[.int .i64 1],[.int .i64 2],[.int .i64 3]]) hg0
 generalize X.set g0 (.arr 1 [[.int .i64 1],[.int .i64 2],[.int .i64 3]])=Y at hG Gi oG ⊢
 have l3:List.take 1 (List.drop 3 r.c)=[.bool r.hm]:=rfl
 have hcl:r.cms.length≤1000:=by omega
 simp only [Gi,l3,↓vcPre,↓z0,↓reduceIte,vcPost,vcStd,Nat.reduceEqDiff,reduceCtorEq,Nat.reduceAdd,Nat.reduceLeDiff,Int.reduceLT,Int.reduceLE,↓u_setN]
 refine ⟨by show _≤9;omega,fun g => ?_,fun g => ?_⟩
 ·refine AllocQ.i0 fun q1 hq1 => ?_
  simp only [↓vcPre,↓z0,↓reduceIte,vcPost,vcStd,Nat.reduceEqDiff,reduceCtorEq,Nat.reduceAdd,Nat.reduceLeDiff,Int.reduceLT,Int.reduceLE,↓u_setN]
  have h1:=Store.sub_set Y q1 (.arr 1 [[.int .i64 4]]) hq1
  refine Own.appM (τ:=X) (Store.sub_trans hG h1) (oG.mono h1) (zl (Store.set_same _ _ _) rfl) (by simp) fun v1 u1 hu1 ho1 => ?_
  exact z24 (W:=[1,2,3,4]) Xi hu1 ho1 (by rw [g];rfl) hcl [] (.inl rfl) fun t' ht'=>⟨rfl,Store.sub_trans sσX ht'⟩
 ·exact z24 (W:=[1,2,3]) Xi hG oG (by rw [g];rfl) hcl [(90,.bool _)] (.inr ⟨_,rfl⟩) fun t' ht'=>⟨rfl,Store.sub_trans sσX ht'⟩
end Go.Am
namespace Go.Am
open Go.Proofs
theorem zej (a:At) (ha:I64 a.org∧okNums a) (b:At) (hb:I64 b.org∧okNums b):Pur Tryz.prog 6 [.agg a.c,.agg b.c] (.bool true):=z88 a b ha.1 ha.2 hb.1 hb.2
end Go.Am
