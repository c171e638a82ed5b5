/- A part of the proof: a logic for calls over plain values, and the functions that the law reaches, each walked once. -/
import Derived.Test.YtcjiacchgddnpaaGreatPR13
set_option linter.unusedVariables false
set_option linter.unusedSimpArgs false
set_option linter.unusedSectionVars false
namespace Go.Am
open Go.Proofs Go.Sort
theorem Imp.agg {cs ds:List AV} {σ:Store} {Q:AV→Store→Prop} (h:ImpL cs ds) (hq:Q (.agg ds) σ):Weak (.agg cs) σ Q:=Weak.agg (WeakL.imp h (WeakL.pure ⟨h.flat,hq⟩))
theorem EndQ.three {slots:List RS} {Q:AV→Store→Prop} {e:Env} {τ:Store} {cs cs' ns ns':List AV} {tv:AV} (h1:e.res τ slots=some (.tup [.agg cs,tv,.agg ns])) (hc:ImpL cs cs') (hn:ImpL ns ns')
 (hQ:Q (.tup [.agg cs',tv,.agg ns']) τ) : @EndQ e τ ⟨slots,Q⟩:=by
 unfold EndQ
 refine ⟨_,h1,Weak.tup (WeakL.pos 0 rfl (Imp.agg hc (WeakL.pos 2 rfl (Imp.agg hn (WeakL.pure ?_)))))⟩
 simp only [List.set]
 exact hQ
theorem z2d {Q:AV→Store→Prop} {σ τ:Store} {x y tv:AV} {L:List (List AV)} (ho:Own 1 σ L tv τ) (hs:Store.sub σ τ) (hQ:Q (.tup [x,.sl 1 L,y]) σ):WeakL [x,tv,y] τ (fun l s=>Q (.tup l) s):=by
 rcases ho with ⟨rfl,rfl⟩ | ⟨g,rfl,hg,hh⟩
 ·exact WeakL.nil 1 1 rfl (WeakL.forget hs (WeakL.pure hQ))
 ·refine WeakL.freeze 1 rfl hh (by omega) (WeakL.forget (sub_del hs hg) (WeakL.pure ?_))
  simpa using hQ
def seenM (S:List Int):List (AV×AV):=S.map fun k=>(.int .i64 k,.bool true)
theorem wt (k:Int):∀ (S:List Int) (i:Nat),(k ∈ S→∃ j,mfind (.int .i64 k) (seenM S) i=some (some (j,.bool true)))∧(k ∉ S→mfind (.int .i64 k) (seenM S) i=some none)
 | [],i=>⟨fun h=>by simp at h,fun _=>rfl⟩
 | x::S,i=>by
   have ih:=wt k S (i+1)
   have e:kEq (.int .i64 k) (.int .i64 x)=some (decide (k=x)):=by simp [kEq,asOne]
   simp only [seenM,List.map_cons,mfind,e]
   by_cases h:k=x
   ·subst h
    simp only [decide_true]
    exact ⟨fun _=>⟨i,rfl⟩,fun h=>by simp at h⟩
   ·rw [decide_eq_false h]
    simp only
    exact ⟨fun hm=>ih.1 (by simpa [h] using hm),fun hm=>ih.2 (fun h'=>hm (by simp [h']))⟩
theorem z8k {s:Store} {m:Nat} {S:List Int} (hm:s m=some (.map (seenM S))) (k:Int):ldv (.look false (.int .i64) (.bool false)) [.mp m,.int .i64 k] s=some (.bool (decide (k ∈ S))):=by
 have hf:keyFits (.int .i64) (.int .i64 k)=true:=by simp [keyFits,asOne]
 simp only [ldv,hf,if_true,mpOf,hm,Option.bind_some]
 by_cases h:k ∈ S
 ·obtain ⟨j,hj⟩:=(wt k S 0).1 h
  rw [hj,decide_eq_true h];rfl
 ·rw [(wt k S 0).2 h,decide_eq_false h];rfl
theorem z7k {s:Store} {m:Nat} {S:List Int} {k:Int} {K:Store→Prop} (hm:s m=some (.map (seenM S))) (hk:k ∉ S) (h:K (s.set m (.map (seenM (S++[k]))))):mupdwp (.int .i64) (.mp m) (.int .i64 k) (.bool true) s K:=by
 refine ⟨by simp [keyFits,asOne],?_⟩
 simp only [hm,(wt k S 0).2 hk]
 simpa [seenM] using h
def zC:List AV:=[.int .i64 0,.nils,.int .u32 0,.bool false,.int .u32 0,.bool false,.int .u32 0,.bool false,.nils]
def zN:List AV:=[.int .i64 0,.int .i64 0,.nils]
theorem zch:ImpL zC zeroAt.c := .cons (.refl rfl) (.cons .nils (.cons (.refl rfl) (.cons (.refl rfl) (.cons (.refl rfl) (.cons (.refl rfl) (.cons (.refl rfl) (.cons (.refl rfl) (.cons .nils .nil))))))))
def outD (x:Except Nt (At×List Int)):AV:=match x with
 | .ok (a,ty) => .tup [.agg a.c,.sl 1 (ty.map cI),.agg [.int .i64 0,.int .i64 0,.sl 1 []]]
 | .error n => .tup [.agg zeroAt.c,.sl 1 [],.agg [.int .i64 3,.int .i64 n.1,.sl 1 (n.2.map cB)]]
def outO (x:Except Nt (At×List Int)) (tv:AV):AV:=match x with
 | .ok (a,_) => .tup [.agg a.c,tv,.agg [.int .i64 0,.int .i64 0,.sl 1 []]]
 | .error n => .tup [.agg zeroAt.c,tv,.agg [.int .i64 3,.int .i64 n.1,.sl 1 (n.2.map cB)]]
def tyO (x:Except Nt (At×List Int)):List (List AV):=match x with
 | .ok (_,ty)=>ty.map cI
 | .error _=>[]
theorem z24 {c:Ch} {a a':At} (h:stepA c a = .ok a') (ha:a.ok) (hv:c.val.length≤1000000):a'.ok:=by
 unfold stepA at h
 split at h
 ·split at h
  ·cases h
  ·cases h;exact ha
 ·split at h
  ·cases h
  ·split at h
   ·cases h
   ·unfold valA at h
    repeat' split at h
    all_goals first
     | (cases h;exact ha)
     | cases h
     | skip
    ·rename_i l hl
     unfold decPath at hl
     split at hl
     ·split at hl
      ·rename_i hp
       cases hl
       exact ⟨by have:=hp.2;show l.length≤1000000;omega,fun s hs=>by have:=(hp.1 s hs).2.2;show s.ls.length≤_;omega,ha.2.2⟩
      ·cases hl
     ·cases hl
    ·refine ⟨ha.1,ha.2.1,?_⟩
     have:=x9 (c.val.length / 4) c.val (by omega)
     simp only
     omega
theorem z5k {σ V:Store} {p4 p6 p7 m x:Nat} (inner:Bool) {rv tv av bo:AV} (c:Ch) (a:At) (ty:List Int) (h46:¬ p4=p6) (h6:¬ p6=p4) (hx4:¬ p4=x) (hx6:¬ p6=x) (hx7:¬ p7=x) (h47:¬ p4=p7) (h67:¬ p6=p7) (m7:¬ m=p7)
 (hV:Store.sub σ V) (Vx:V x=some (.box [.int .i64 c.fl,.int .i64 c.kind,.sl 1 (c.val.map cB),av])) (V4:V p4=some (.box zC)) (V6:V p6=some (.box zN)) {M:Obj} (Vm:V m=some M) (hM:∀ L,M ≠ .arr 1 L) (hm7:¬ p7=m) (VA:AI σ p7 a V) (Vo:Own 1 σ (ty.map cI) tv V)
 (hv:c.val.length≤1000000) (hu:U8s c.val) (hal:c.all.length≤1000000) (hty:ty.length≤1000000) (hra:Rd 1 σ (c.all.map cB) av) {n r:Env→Store→Prop} {xx:Nat→Env→Store→Prop}
 (hgo:∀ a' tv' t,stepA c a = .ok a'→AI σ p7 a' t→t p4=some (.box zC)→t p6=some (.box zN)→t m=some M→Own 1 σ ((ty++[c.kind]).map cI) tv' t→n [(0,rv),(1,.bool inner),(4,.ptr p4 0),(6,.ptr p6 0),(7,.ptr p7 0),(8,tv'),(9,.mp m)] t∧xx 1 [(0,rv),(1,.bool inner),(4,.ptr p4 0),(6,.ptr p6 0),(7,.ptr p7 0),(8,tv'),(9,.mp m)] t)
 (hbad:∀ t nt,stepA c a = .error nt→Store.sub σ t→r [(4,.ptr p4 0),(5,.nils),(6,.ptr p6 0)] ((t.set p4 (.box zC)).set p6 (.box [.int .i64 3,.int .i64 nt.1,.sl 1 (nt.2.map cB)]))) :
 bwp Tryz.prog Tsq.t28_49 [(0,rv),(1,.bool inner),(4,.ptr p4 0),(6,.ptr p6 0),(7,.ptr p7 0),(8,tv),(9,.mp m),(10,.ptr x 0),(47,bo)] V n r xx:=by
 simp only [Tsq.t28_49]
 have zC9:zC.length=9:=rfl
 have szz:splice 0 zC zC=some zC:=rfl
 have szn:∀ x y z:AV,splice 0 [x,y,z] zN=some [x,y,z]:=fun _ _ _=>rfl
 have szl:splice 0 [.int .i64 0,.nils,.int .u32 0,.bool false,.int .u32 0,.bool false,.int .u32 0,.bool false,.nils] zC=some zC:=rfl
 simp only [Vx,↓vcPre,↓z0,↓reduceIte,vcPost,vcStd,Nat.reduceEqDiff,reduceCtorEq,Nat.reduceAdd,Nat.reduceLeDiff,Int.reduceLT,Int.reduceLE,↓u_setN]
 refine (c69 c.kind).Q ?_
 by_cases hw:wantOf c.kind=0
 ·rw [show ofOk c.kind=false by simp [ofOk,hw]]
  simp only [Vx,↓vcPre,↓z0,↓reduceIte,vcPost,vcStd,Nat.reduceEqDiff,reduceCtorEq,Nat.reduceAdd,Nat.reduceLeDiff,Int.reduceLT,Int.reduceLE,↓u_setN]
  have e1:andI c.fl 128=bitInt .and .i64 c.fl 128:=rfl
  have hst:stepA c a=if andI c.fl 128=0 then .error (2,c.all) else .ok a:=by unfold stepA;rw [if_pos hw]
  refine ⟨fun g => ?_,fun g => ?_⟩
  ·refine (s68 (hra.mono hV) (by omega) 2).Q ?_
   rintro r' t ⟨rfl,rfl⟩
   simp only [V4,V6,h46,h6,zC9,szz,szn,szl,↓vcPre,↓z0,↓reduceIte,vcPost,vcStd,Nat.reduceEqDiff,reduceCtorEq,Nat.reduceAdd,Nat.reduceLeDiff,Int.reduceLT,Int.reduceLE,↓u_setN]
   exact hbad _ (2,c.all) (by rw [hst,if_pos (e1.trans g)]) hV
  ·refine AllocQ.i0 fun b hb => ?_
   simp only [↓vcPre,↓z0,↓reduceIte,vcPost,vcStd,Nat.reduceEqDiff,reduceCtorEq,Nat.reduceAdd,Nat.reduceLeDiff,Int.reduceLT,Int.reduceLE,↓u_setN]
   have hsb:=Store.sub_set V b (.arr 1 [[.int .i64 c.kind]]) hb
   have hVA:=VA.2.1
   refine Own.appK (τ:=σ) (bytes:=8) (Store.sub_trans hV hsb) (Vo.mono hsb) (zj (Store.set_same _ _ _) rfl) (by simp;omega) fun v' t ht ho hk => ?_
   have kk:∀ q o,V q=some o→(∀ L,o ≠ .arr 1 L)→t q=some o:=fun q o hq hn=>hk _ _ (hsb _ _ hq) (fun L=>hn L)
   obtain ⟨q1,q2,pv,cv,q3,q4,q5⟩:=VA
   exact (hgo a v' t (by rw [hst,if_neg (by rw [e1];exact g)]) ⟨q1,ht,pv,cv,kk _ _ q3 (fun L e=>by cases e),q4,q5⟩ (kk _ _ V4 (fun L e=>by cases e)) (kk _ _ V6 (fun L e=>by cases e)) (kk _ _ Vm hM) (by simpa [cI] using ho)).2
 ·rw [show ofOk c.kind=true by simp [ofOk,hw]]
  simp only [Vx,↓vcPre,↓z0,↓reduceIte,vcPost,vcStd,Nat.reduceEqDiff,reduceCtorEq,Nat.reduceAdd,Nat.reduceLeDiff,Int.reduceLT,Int.reduceLE,↓u_setN]
  refine (s70 VA c hw hv hu hal hra).Q ?_
  rintro r' t ⟨hk,hpost⟩
  have t4:=hk _ _ h47 V4
  have t6:=hk _ _ h67 V6
  have tm:=hk _ _ m7 Vm
  have to:Own 1 σ (ty.map cI) tv t:=by
   rcases Vo with h | ⟨g,h1,h2,h3⟩
   ·exact .inl h
   ·refine .inr ⟨g,h1,h2,hk _ _ (fun e => ?_) h3⟩
    obtain ⟨_,_,pv,cv,h,_⟩:=VA
    rw [←e,h3] at h;cases h
  have tx:=hk _ _ (fun e=>hx7 e.symm) Vx
  cases hs:stepA c a with
  | ok a' =>
    rw [hs] at hpost
    obtain ⟨rfl,hA⟩:=hpost
    simp only [note0]
    simp only [↓vcPre,↓z0,↓reduceIte,vcPost,vcStd,Nat.reduceEqDiff,reduceCtorEq,Nat.reduceAdd,Nat.reduceLeDiff,Int.reduceLT,Int.reduceLE,↓u_setN]
    refine AllocQ.i0 fun b hb => ?_
    have hsb:Store.sub t ((t.set b (.box zN)).set b (.box zN)):=z6 (Store.sub_set _ _ _ hb) hb
    rw [show [AV.int .i64 0,.int .i64 0,.nils]=zN from rfl]
    have hbb:((t.set b (.box zN)).set b (.box zN)) b=some (.box zN):=Store.set_same _ _ _
    have szN:splice 0 zN zN=some zN:=rfl
    have z3:zN.length=3:=rfl
    have zt:List.take 1 zN=[.int .i64 0]:=rfl
    have d00:((0:Int)=0)=True:=by simp
    simp only [szN,↓vcPre,↓z0,↓reduceIte,vcPost,vcStd,Nat.reduceEqDiff,reduceCtorEq,Nat.reduceAdd,Nat.reduceLeDiff,Int.reduceLT,Int.reduceLE,↓u_setN]
    generalize (t.set b (.box zN)).set b (.box zN)=W at hsb hbb ⊢
    simp only [z3,zt,hsb _ _ tx,hsb _ _ t4,hsb _ _ t6,d00,↓vcPre,↓z0,↓reduceIte,vcPost,vcStd,Nat.reduceEqDiff,reduceCtorEq,Nat.reduceAdd,Nat.reduceLeDiff,Int.reduceLT,Int.reduceLE,↓u_setN]
    refine AllocQ.i0 fun d hd => ?_
    simp only [↓vcPre,↓z0,↓reduceIte,vcPost,vcStd,Nat.reduceEqDiff,reduceCtorEq,Nat.reduceAdd,Nat.reduceLeDiff,Int.reduceLT,Int.reduceLE,↓u_setN]
    have hsd:=Store.sub_set W d (.arr 1 [[.int .i64 c.kind]]) hd
    obtain ⟨q1,q2,pv,cv,q3,q4,q5⟩:=hA
    refine Own.appK (τ:=σ) (bytes:=8) (Store.sub_trans q2 (Store.sub_trans hsb hsd)) ((to.mono hsb).mono hsd) (zj (Store.set_same _ _ _) rfl) (by simp;omega) fun v' y hy ho hk2 => ?_
    have kk:∀ q o,t q=some o→(∀ L,o ≠ .arr 1 L)→y q=some o:=fun q o hq hn=>hk2 _ _ (hsd _ _ (hsb _ _ hq)) (fun L=>hn L)
    exact (hgo a' v' y hs ⟨q1,hy,pv,cv,kk _ _ q3 (fun L e=>by cases e),q4,q5⟩ (kk _ _ t4 (fun L e=>by cases e)) (kk _ _ t6 (fun L e=>by cases e)) (kk _ _ tm hM) (by simpa [cI] using ho)).1
  | error nt =>
    rw [hs] at hpost
    obtain ⟨rfl,hA⟩:=hpost
    simp only [noteV]
    simp only [↓vcPre,↓z0,↓reduceIte,vcPost,vcStd,Nat.reduceEqDiff,reduceCtorEq,Nat.reduceAdd,Nat.reduceLeDiff,Int.reduceLT,Int.reduceLE,↓u_setN]
    refine AllocQ.i0 fun b hb => ?_
    simp only [↓vcPre,↓z0,↓reduceIte,vcPost,vcStd,Nat.reduceEqDiff,reduceCtorEq,Nat.reduceAdd,Nat.reduceLeDiff,Int.reduceLT,Int.reduceLE,↓u_setN]
    have hsb:Store.sub t ((t.set b (.box [.int .i64 0,.int .i64 0,.nils])).set b (.box [.int .i64 3,.int .i64 nt.1,.sl 1 (nt.2.map cB)])):=z6 (Store.sub_set _ _ _ hb) hb
    have hbb:((t.set b (.box [.int .i64 0,.int .i64 0,.nils])).set b (.box [.int .i64 3,.int .i64 nt.1,.sl 1 (nt.2.map cB)])) b=some (.box [.int .i64 3,.int .i64 nt.1,.sl 1 (nt.2.map cB)]):=Store.set_same _ _ _
    generalize (t.set b (.box [.int .i64 0,.int .i64 0,.nils])).set b (.box [.int .i64 3,.int .i64 nt.1,.sl 1 (nt.2.map cB)])=W at hsb hbb ⊢
    have b4:¬ p4=b:=fun e=>by rw [e,hb] at t4;cases t4
    have b4':¬ b=p4:=fun e=>b4 e.symm
    have d30:((3:Int)=0)=False:=by simp
    simp only [d30,hsb _ _ t4,hsb _ _ t6,hbb,h46,h6,b4,b4',zC9,szz,szn,szl,↓vcPre,↓z0,↓reduceIte,vcPost,vcStd,Nat.reduceEqDiff,reduceCtorEq,Nat.reduceAdd,Nat.reduceLeDiff,Int.reduceLT,Int.reduceLE,↓u_setN]
    exact ⟨hbad _ nt hs (Store.sub_trans hA hsb),hbad _ nt hs (Store.sub_trans hA hsb)⟩
theorem zac {f:Nat} {cells cells':List AV} {s:Store} {Q:AV→Store→Prop} (hi:ImpL cells cells') (h:ACalls Tryz.prog f [.agg cells'] s Q):ACalls Tryz.prog f [.agg cells] s Q :=
 ACalls.weakArgs h.1 (WeakL.pos 0 rfl (Imp.agg hi (WeakL.pure h)))
theorem AI.imp {a:At} {pv cv:AV} (hp:pv = .sl 2 (a.path.map Seg.c)∨pv = .nils∧a.path=[]) (hc:cv = .sl 1 (a.cms.map cU)∨cv = .nils∧a.cms=[]):ImpL [.int .i64 a.org,pv,.int .u32 a.nxt,.bool a.hm,.int .u32 a.med,.bool a.hp,.int .u32 a.prf,.bool a.atm,cv] a.c:=by
 have h1:Imp pv (.sl 2 (a.path.map Seg.c)):=by
  rcases hp with rfl | ⟨rfl,e⟩
  ·exact .refl rfl
  ·rw [e];exact .nils
 have h2:Imp cv (.sl 1 (a.cms.map cU)):=by
  rcases hc with rfl | ⟨rfl,e⟩
  ·exact .refl rfl
  ·rw [e];exact .nils
 exact .cons (.refl rfl) (.cons h1 (.cons (.refl rfl) (.cons (.refl rfl) (.cons (.refl rfl) (.cons (.refl rfl) (.cons (.refl rfl) (.cons (.refl rfl) (.cons h2 .nil))))))))
def InvD (σ:Store) (p4 p6 p7 m:Nat) (inner:Bool) (B0:List Int) (w:(List Int×AV)×(At×List Int)×(List Int×AV)×Store):Prop :=
 Rd 1 σ (w.1.1.map cB) w.1.2∧U8s w.1.1∧AI σ p7 w.2.1.1 w.2.2.2∧w.2.1.1.ok∧w.2.2.2 p4=some (.box zC)∧w.2.2.2 p6=some (.box zN)∧w.2.2.2 m=some (.map (seenM w.2.1.2.reverse)) ∧
  Own 1 σ (w.2.2.1.1.map cI) w.2.2.1.2 w.2.2.2∧w.2.2.1.1.length+w.1.1.length≤B0.length∧decL inner w.1.1.length w.1.1 w.2.1.1 w.2.1.2 w.2.2.1.1=decL inner B0.length B0 zeroAt [] []
theorem z6f {b:List Int} {c:Ch} (hu:U8s b) (h:chunk b=some c):U8s c.val∧U8s c.rest∧c.val.length≤b.length∧c.all.length≤b.length:=by
 have ht:∀ (l:List Int) (n:Nat),(∀ x ∈ l,x ∈ b)→U8s (l.take n)∧U8s (l.drop n):=fun l n hl=>⟨fun x hx=>hu x (hl x (List.mem_of_mem_take hx)),fun x hx=>hu x (hl x (List.mem_of_mem_drop hx))⟩
 unfold chunk at h
 split at h
 ·split at h
  ·split at h
   ·cases h
   ·cases h
    refine ⟨(ht _ _ fun x hx=>by simp [hx]).1,(ht _ _ fun x hx=>by simp [hx]).2,by simp;omega,by simp;omega⟩
  ·split at h
   ·split at h
    ·cases h
    ·cases h
     refine ⟨(ht _ _ fun x hx=>by simp [hx]).1,(ht _ _ fun x hx=>by simp [hx]).2,by simp;omega,by simp;omega⟩
   ·cases h
 ·cases h
set_option maxHeartbeats 1000000 in
theorem zf1 {σ:Store} {B:List Int} {v:AV} (hr:Rd 1 σ (B.map cB) v) (hB:B.length≤1000000) (hu:U8s B) (inner:Bool):ACalls Tryz.prog 28 [v,.bool inner] σ (fun r s=>Store.sub σ s∧∃ tv,r=outO (decA inner B) tv∧Own 1 σ (tyO (decA inner B)) tv s):=by
 refine zf Tsq.F28 (by simp [Tsq.F28,Fn.mkX]) ?_
 simp only [Tsq.F28,Fn.mkX,Tsq.b28]
 simp only [↓vcPre,↓z0,↓reduceIte,vcPost,vcStd,Nat.reduceEqDiff,reduceCtorEq,Nat.reduceAdd,Nat.reduceLeDiff,Int.reduceLT,Int.reduceLE,↓u_setN]
 refine AllocQ.i0 fun p4 h4 => ?_
 simp only [↓vcPre,↓z0,↓reduceIte,vcPost,vcStd,Nat.reduceEqDiff,reduceCtorEq,Nat.reduceAdd,Nat.reduceLeDiff,Int.reduceLT,Int.reduceLE,↓u_setN]
 refine AllocQ.i1 fun p6 h6 h46 h6s => ?_
 simp only [↓vcPre,↓z0,↓reduceIte,vcPost,vcStd,Nat.reduceEqDiff,reduceCtorEq,Nat.reduceAdd,Nat.reduceLeDiff,Int.reduceLT,Int.reduceLE,↓u_setN]
 refine AllocQ.i2 fun p7 h74 h47 h76 h67 h7s => ?_
 simp only [↓vcPre,↓z0,↓reduceIte,vcPost,vcStd,Nat.reduceEqDiff,reduceCtorEq,Nat.reduceAdd,Nat.reduceLeDiff,Int.reduceLT,Int.reduceLE,↓u_setN]
 rw [show [AV.int .i64 0,.nils,.int .u32 0,.bool false,.int .u32 0,.bool false,.int .u32 0,.bool false,.nils]=zC from rfl,show [AV.int .i64 0,.int .i64 0,.nils]=zN from rfl]
 have T4:(((σ.set p4 (.box zC)).set p6 (.box zN)).set p7 (.box zC)) p4=some (.box zC):=by rw [Store.set_ne _ _ h47,Store.set_ne _ _ h46,Store.set_same]
 have T6:(((σ.set p4 (.box zC)).set p6 (.box zN)).set p7 (.box zC)) p6=some (.box zN):=by rw [Store.set_ne _ _ h67,Store.set_same]
 have T7:(((σ.set p4 (.box zC)).set p6 (.box zN)).set p7 (.box zC)) p7=some (.box zC):=Store.set_same _ _ _
 have sT:Store.sub σ (((σ.set p4 (.box zC)).set p6 (.box zN)).set p7 (.box zC)):=z6 (z6 (z6 (Store.sub_refl _) h4) h6s) h7s
 generalize ((σ.set p4 (.box zC)).set p6 (.box zN)).set p7 (.box zC)=T at T4 T6 T7 sT ⊢
 refine AllocQ.i0 fun m hm => ?_
 have hσm:σ m=none:=zi sT hm
 have m4:¬ m=p4:=fun e=>by rw [e,T4] at hm;cases hm
 have m6:¬ m=p6:=fun e=>by rw [e,T6] at hm;cases hm
 have m7:¬ m=p7:=fun e=>by rw [e,T7] at hm;cases hm
 have n4:¬ p4=m:=fun e=>m4 e.symm
 have n6:¬ p6=m:=fun e=>m6 e.symm
 have n7:¬ p7=m:=fun e=>m7 e.symm
 simp only [↓vcPre,↓z0,↓reduceIte,vcPost,vcStd,Nat.reduceEqDiff,reduceCtorEq,Nat.reduceAdd,Nat.reduceLeDiff,Int.reduceLT,Int.reduceLE,↓u_setN]
 have zC9:zC.length=9:=rfl
 have szz:splice 0 zC zC=some zC:=rfl
 have szn:∀ x y z:AV,splice 0 [x,y,z] zN=some [x,y,z]:=fun _ _ _=>rfl
 have bad:∀ (t:Store) (n:Nt),Store.sub σ t→decL inner B.length B zeroAt [] [] = .error n → @EndQ [(4,.ptr p4 0),(5,.nils),(6,.ptr p6 0)] ((t.set p4 (.box zC)).set p6 (.box [.int .i64 3,.int .i64 n.1,.sl 1 (n.2.map cB)])) ⟨Tsq.F28.slots,fun r s=>Store.sub σ s∧∃ tv,r=outO (decA inner B) tv∧Own 1 σ (tyO (decA inner B)) tv s⟩:=by
  intro t n ht he
  refine EndQ.three (cs:=zC) (cs':=zeroAt.c) (ns:=[.int .i64 3,.int .i64 n.1,.sl 1 (n.2.map cB)]) (ns':=[.int .i64 3,.int .i64 n.1,.sl 1 (n.2.map cB)]) (tv := .nils) ?_ zch (ImpL.refl _ (by simp [AV.flat])) ⟨z6 (z6 ht h4) h6s,.nils,?_,?_⟩
  ·show Env.res [(4,AV.ptr p4 0),(5,.nils),(6,AV.ptr p6 0)] _ [RS.c 4 9 true,RS.t 5,RS.c 6 3 true]=_
   simp only [h46,h6,Store.set_same,↓vcPre,↓z0,↓reduceIte,vcPost,vcStd,Nat.reduceEqDiff,reduceCtorEq,Nat.reduceAdd,Nat.reduceLeDiff,Int.reduceLT,Int.reduceLE,↓u_setN]
   rfl
  ·simp only [decA,he,outO]
  ·simp only [decA,he,tyO];exact Own.nil
 refine LoopQ.inv (S:=(List Int×AV)×(At×List Int)×(List Int×AV)×Store) (fun w=>[(0,w.1.2),(1,.bool inner),(4,.ptr p4 0),(6,.ptr p6 0),(7,.ptr p7 0),(8,w.2.2.1.2),(9,.mp m)]) (fun w=>w.2.2.2) (InvD σ p4 p6 p7 m inner B) (fun w=>w.1.1.length) ((B,v),(zeroAt,[]),([],.nils),T.set m (.map [])) rfl (Store.sub_refl _) ⟨hr,hu,⟨h7s,z6 sT hσm,.nils,.nils,(Store.set_ne _ _ n7).trans T7,.inr ⟨rfl,rfl⟩,.inr ⟨rfl,rfl⟩⟩,z68,(Store.set_ne _ _ n4).trans T4,(Store.set_ne _ _ n6).trans T6,Store.set_same _ _ _,Own.nil,by simp,rfl⟩ ?_
 rintro ⟨⟨B1,bv⟩,⟨a,S⟩,⟨ty,tv⟩,s⟩ ⟨k1,k2,k3,k4,k5,k6,k7,k8,k9,k10⟩
 simp only at k1 k2 k3 k4 k5 k6 k7 k8 k9 k10
 have hlen:pv .len [bv]=some (.int .i64 (B1.length:Int)):=by rw [k1.2];simp
 simp only [hlen,↓vcPre,↓z0,↓reduceIte,vcPost,vcStd,Nat.reduceEqDiff,reduceCtorEq,Nat.reduceAdd,Nat.reduceLeDiff,Int.reduceLT,Int.reduceLE,↓u_setN]
 have hσs:=k3.2.1
 refine ⟨fun c1 => ?_,fun c1 => ?_⟩
 ·obtain ⟨x0,B2,hB2⟩:∃ x r,B1=x::r:=by cases B1 with | nil=>simp at c1 | cons x r=>exact ⟨x,r,rfl⟩
  refine (s67 k3.2.1 k1 (by omega) k2).Q ?_
  rintro r s1 ⟨rfl,hcr⟩
  have hstep:decL inner B1.length B1 a S ty=match chunk B1 with
   | none => .error (1,[])
   | some c=>if c.kind ∈ S then .error (1,[]) else if c.kind=5∧inner=false then decL inner c.rest.length c.rest a (c.kind::S) ty
     else match stepA c a with | .error n => .error n | .ok a'=>decL inner c.rest.length c.rest a' (c.kind::S) (ty++[c.kind]):=by
   rw [hB2]
   show decL inner (B2.length+1) (x0::B2) a S ty=_
   simp only [decL]
   cases hc:chunk (x0::B2) with
   | none=>rfl
   | some c =>
     have hl:=wn hc
     simp only [List.length_cons] at hl
     have e:=fun a S ty=>wq inner B2.length c.rest.length c.rest a S ty (by omega) (Nat.le_refl _)
     simp only [e]
     rfl
  rw [k10] at hstep
  cases hc:chunk B1 with
  | none =>
    rw [hc] at hcr hstep
    subst hcr
    simp only [↓vcPre,↓z0,↓reduceIte,vcPost,vcStd,Nat.reduceEqDiff,reduceCtorEq,Nat.reduceAdd,Nat.reduceLeDiff,Int.reduceLT,Int.reduceLE,↓u_setN]
    refine AllocQ.i0 fun x hx => ?_
    simp only [↓vcPre,↓z0,↓reduceIte,vcPost,vcStd,Nat.reduceEqDiff,reduceCtorEq,Nat.reduceAdd,Nat.reduceLeDiff,Int.reduceLT,Int.reduceLE,↓u_setN]
    have sU:Store.sub s1 ((s1.set x (.box [.int .i64 0,.int .i64 0,.nils,.nils])).set x (.box [.int .i64 0,.int .i64 0,.nils,.nils])):=z6 (Store.sub_set _ _ _ hx) hx
    have Ux:((s1.set x (.box [.int .i64 0,.int .i64 0,.nils,.nils])).set x (.box [.int .i64 0,.int .i64 0,.nils,.nils])) x=some (.box [.int .i64 0,.int .i64 0,.nils,.nils]):=Store.set_same _ _ _
    generalize (s1.set x (.box [.int .i64 0,.int .i64 0,.nils,.nils])).set x (.box [.int .i64 0,.int .i64 0,.nils,.nils])=U at sU Ux ⊢
    have U4:=sU _ _ k5
    have U6:=sU _ _ k6
    have Um:=sU _ _ k7
    have σU:=Store.sub_trans hσs sU
    refine (s68 (M:=[]) Rd.nils (by simp) 1).Q ?_
    rintro r t ⟨rfl,rfl⟩
    simp only [U4,U6,h46,h6,zC9,szz,szn,↓vcPre,↓z0,↓reduceIte,vcPost,vcStd,Nat.reduceEqDiff,reduceCtorEq,Nat.reduceAdd,Nat.reduceLeDiff,Int.reduceLT,Int.reduceLE,↓u_setN]
    exact bad _ (1,[]) σU hstep
  | some c =>
    rw [hc] at hcr hstep
    simp only at hcr hstep
    obtain ⟨av,rv,rfl,hra,hrr⟩:=hcr
    have hcl:=wn hc
    have cu:=z6f k2 hc
    simp only [↓vcPre,↓z0,↓reduceIte,vcPost,vcStd,Nat.reduceEqDiff,reduceCtorEq,Nat.reduceAdd,Nat.reduceLeDiff,Int.reduceLT,Int.reduceLE,↓u_setN]
    refine AllocQ.i0 fun x hx => ?_
    simp only [↓vcPre,↓z0,↓reduceIte,vcPost,vcStd,Nat.reduceEqDiff,reduceCtorEq,Nat.reduceAdd,Nat.reduceLeDiff,Int.reduceLT,Int.reduceLE,↓u_setN]
    have sU:Store.sub s1 ((s1.set x (.box [.int .i64 0,.int .i64 0,.nils,.nils])).set x (.box [.int .i64 c.fl,.int .i64 c.kind,.sl 1 (c.val.map cB),av])):=z6 (Store.sub_set _ _ _ hx) hx
    have Ux:((s1.set x (.box [.int .i64 0,.int .i64 0,.nils,.nils])).set x (.box [.int .i64 c.fl,.int .i64 c.kind,.sl 1 (c.val.map cB),av])) x=some (.box [.int .i64 c.fl,.int .i64 c.kind,.sl 1 (c.val.map cB),av]):=Store.set_same _ _ _
    generalize (s1.set x (.box [.int .i64 0,.int .i64 0,.nils,.nils])).set x (.box [.int .i64 c.fl,.int .i64 c.kind,.sl 1 (c.val.map cB),av])=U at sU Ux ⊢
    have U4:=sU _ _ k5
    have U6:=sU _ _ k6
    have Um:=sU _ _ k7
    have σU:=Store.sub_trans hσs sU
    have hx7:¬ p7=x:=fun e=>by obtain ⟨_,_,pv,cv,h,_⟩:=k3;rw [e,hx] at h;cases h
    have hx4:¬ p4=x:=fun e=>by rw [e,hx] at k5;cases k5
    have hx6:¬ p6=x:=fun e=>by rw [e,hx] at k6;cases k6
    have hxm:¬ m=x:=fun e=>by rw [e,hx] at k7;cases k7
    have g7:¬ x=p7:=fun e=>hx7 e.symm
    have gm:¬ x=m:=fun e=>hxm e.symm
    have g4:¬ x=p4:=fun e=>hx4 e.symm
    have g6:¬ x=p6:=fun e=>hx6 e.symm
    rw [z8k Um]
    by_cases hk:c.kind ∈ S
    ·rw [if_pos hk] at hstep
     rw [decide_eq_true (List.mem_reverse.2 hk)]
     simp only [↓vcPre,↓z0,↓reduceIte,vcPost,vcStd,Nat.reduceEqDiff,reduceCtorEq,Nat.reduceAdd,Nat.reduceLeDiff,Int.reduceLT,Int.reduceLE,↓u_setN]
     refine (s68 (M:=[]) Rd.nils (by simp) 1).Q ?_
     rintro r t ⟨rfl,rfl⟩
     simp only [U4,U6,h46,h6,zC9,szz,szn,↓vcPre,↓z0,↓reduceIte,vcPost,vcStd,Nat.reduceEqDiff,reduceCtorEq,Nat.reduceAdd,Nat.reduceLeDiff,Int.reduceLT,Int.reduceLE,↓u_setN]
     exact bad _ (1,[]) σU hstep
    ·rw [if_neg hk] at hstep
     have hk':c.kind ∉ S.reverse:=fun h=>hk (List.mem_reverse.1 h)
     rw [decide_eq_false hk']
     simp only [↓vcPre,↓z0,↓reduceIte,vcPost,vcStd,Nat.reduceEqDiff,reduceCtorEq,Nat.reduceAdd,Nat.reduceLeDiff,Int.reduceLT,Int.reduceLE,↓u_setN]
     refine z7k Um hk' ?_
     rw [←List.reverse_cons]
     have hV:Store.sub σ (U.set m (.map (seenM (c.kind::S).reverse))):=z6 σU hσm
     have Vx:(U.set m (.map (seenM (c.kind::S).reverse))) x=some (.box [.int .i64 c.fl,.int .i64 c.kind,.sl 1 (c.val.map cB),av]):=by rw [Store.set_ne _ _ gm];exact Ux
     have V4:(U.set m (.map (seenM (c.kind::S).reverse))) p4=some (.box zC):=by rw [Store.set_ne _ _ n4];exact U4
     have V6:(U.set m (.map (seenM (c.kind::S).reverse))) p6=some (.box zN):=by rw [Store.set_ne _ _ n6];exact U6
     have Vm:(U.set m (.map (seenM (c.kind::S).reverse))) m=some (.map (seenM (c.kind::S).reverse)):=Store.set_same _ _ _
     have VA:AI σ p7 a (U.set m (.map (seenM (c.kind::S).reverse))):=by
      obtain ⟨q1,q2,pv,cv,q3,q4,q5⟩:=k3
      exact ⟨q1,hV,pv,cv,by rw [Store.set_ne _ _ n7];exact sU _ _ q3,q4,q5⟩
     have Vo:Own 1 σ (ty.map cI) tv (U.set m (.map (seenM (c.kind::S).reverse))):=(k8.mono sU).setId Um (fun M e=>by cases e)
     generalize U.set m (.map (seenM (c.kind::S).reverse))=V at hV Vx V4 V6 Vm VA Vo ⊢
     simp only [Vx,↓vcPre,↓z0,↓reduceIte,vcPost,vcStd,Nat.reduceEqDiff,reduceCtorEq,Nat.reduceAdd,Nat.reduceLeDiff,Int.reduceLT,Int.reduceLE,↓u_setN]
     have next:∀ (a':At) (ty':List Int) (tv':AV) (t:Store),AI σ p7 a' t→a'.ok→t p4=some (.box zC)→t p6=some (.box zN)→t m=some (.map (seenM (c.kind::S).reverse))→Own 1 σ (ty'.map cI) tv' t→ty'.length≤ty.length+1→decL inner B.length B zeroAt [] []=decL inner c.rest.length c.rest a' (c.kind::S) ty' →
      InvD σ p4 p6 p7 m inner B ((c.rest,rv),(a',c.kind::S),(ty',tv'),t):=by
      intro a' ty' tv' t g1 g2 g3 g4' g5 g6' g7' g8
      exact ⟨hrr,cu.2.1,g1,g2,g3,g4',g5,g6',by simp only;omega,g8.symm⟩
     have go5:c.kind=5∧inner=false→InvD σ p4 p6 p7 m inner B ((c.rest,rv),(a,c.kind::S),(ty,tv),V):=fun h=>next a ty tv V VA k4 V4 V6 Vm Vo (by omega) (by rw [hstep,if_pos h])
     refine ⟨fun e5 => ?_,fun e5 => ?_⟩
     ·cases inner with
      | false =>
        simp only [↓vcPre,↓z0,↓reduceIte,vcPost,vcStd,Nat.reduceEqDiff,reduceCtorEq,Nat.reduceAdd,Nat.reduceLeDiff,Int.reduceLT,Int.reduceLE,↓u_setN]
        exact NextQ.to ((c.rest,rv),(a,c.kind::S),(ty,tv),V) rfl (Store.sub_refl _) (by simp only;omega) (go5 ⟨e5,rfl⟩)
      | true =>
        have hn:¬ (c.kind=5∧true=false):=by simp
        simp only [↓vcPre,↓z0,↓reduceIte,vcPost,vcStd,Nat.reduceEqDiff,reduceCtorEq,Nat.reduceAdd,Nat.reduceLeDiff,Int.reduceLT,Int.reduceLE,↓u_setN]
        refine z5k (σ:=σ) true c a ty h46 h6 hx4 hx6 hx7 h47 h67 m7 hV Vx V4 V6 Vm (fun L e=>by cases e) n7 VA Vo (by omega) cu.1 (by omega) (by omega) hra (fun a' tv' t g0 g1 g3 g4' g5 g6' => ?_) (fun t nt g0 g1 => ?_)
        ·have I:=next a' (ty++[c.kind]) tv' t g1 (z24 g0 k4 (by omega)) g3 g4' g5 g6' (by simp) (by rw [hstep,if_neg hn,g0])
         refine ⟨NextQ.to ((c.rest,rv),(a',c.kind::S),(ty++[c.kind],tv'),t) rfl (Store.sub_refl _) (by simp only;omega) I,?_⟩
         rw [if_pos rfl]
         exact NextQ.to ((c.rest,rv),(a',c.kind::S),(ty++[c.kind],tv'),t) rfl (Store.sub_refl _) (by simp only;omega) I
        ·exact bad t nt g1 (by rw [hstep,if_neg hn,g0])
     ·have hn:¬ (c.kind=5∧inner=false):=fun h=>e5 h.1
      refine z5k (σ:=σ) inner c a ty h46 h6 hx4 hx6 hx7 h47 h67 m7 hV Vx V4 V6 Vm (fun L e=>by cases e) n7 VA Vo (by omega) cu.1 (by omega) (by omega) hra (fun a' tv' t g0 g1 g3 g4' g5 g6' => ?_) (fun t nt g0 g1 => ?_)
      ·have I:=next a' (ty++[c.kind]) tv' t g1 (z24 g0 k4 (by omega)) g3 g4' g5 g6' (by simp) (by rw [hstep,if_neg hn,g0])
       refine ⟨NextQ.to ((c.rest,rv),(a',c.kind::S),(ty++[c.kind],tv'),t) rfl (Store.sub_refl _) (by simp only;omega) I,?_⟩
       rw [if_pos rfl]
       exact NextQ.to ((c.rest,rv),(a',c.kind::S),(ty++[c.kind],tv'),t) rfl (Store.sub_refl _) (by simp only;omega) I
      ·exact bad t nt g1 (by rw [hstep,if_neg hn,g0])
 ·have hB0:B1=[]:=by cases B1 with | nil=>rfl | cons x r=>simp at c1
  subst hB0
  simp only [Tsq.t28_82]
  have hfin:decL inner B.length B zeroAt [] [] = .ok (a,ty):=by rw [←k10];rfl
  simp only [↓vcPre,↓z0,↓reduceIte,vcPost,vcStd,Nat.reduceEqDiff,reduceCtorEq,Nat.reduceAdd,Nat.reduceLeDiff,Int.reduceLT,Int.reduceLE,↓u_setN]
  have e9:∀ x:At,x.c.length=9:=fun _=>rfl
  have spZ:∀ x:At,splice 0 x.c zC=some x.c:=fun _=>rfl
  have snl:splice 0 [.int .i64 0,.int .i64 0,.nils] zN=some zN:=rfl
  have z3:zN.length=3:=rfl
  obtain ⟨q1,q2,pv,cv,q3,q4,q5⟩:=k3
  have fin:∀ (t:Store) (ty':List Int),ty'=ty.mergeSort leI→Store.sub σ t→t p7=some (.box [.int .i64 a.org,pv,.int .u32 a.nxt,.bool a.hm,.int .u32 a.med,.bool a.hp,.int .u32 a.prf,.bool a.atm,cv])→t p4=some (.box zC)→t p6=some (.box zN)→Own 1 σ (ty'.map cI) tv t →
   ACalls Tryz.prog 72 [.agg [.int .i64 a.org,pv,.int .u32 a.nxt,.bool a.hm,.int .u32 a.med,.bool a.hp,.int .u32 a.prf,.bool a.atm,cv]] t (fun r s'=>s'=t∧r = .agg (canonA a).c) ∧
   @EndQ [(4,.ptr p4 0),(5,tv),(6,.ptr p6 0)] ((t.set p4 (.box (canonA a).c)).set p6 (.box zN)) ⟨Tsq.F28.slots,fun r s=>Store.sub σ s∧∃ tv,r=outO (decA inner B) tv∧Own 1 σ (tyO (decA inner B)) tv s⟩:=by
   intro t ty' hty ht h7 h4' h6' ho
   refine ⟨zac (AI.imp q4 q5) (c72 a k4 t),?_⟩
   have ho2:Own 1 σ (ty'.map cI) tv ((t.set p4 (.box (canonA a).c)).set p6 (.box zN)):=(ho.setId h4' (fun M e=>by cases e)).setId (by rw [Store.set_ne _ _ h6];exact h6') (fun M e=>by cases e)
   refine EndQ.three (cs:=(canonA a).c) (cs':=(canonA a).c) (ns:=zN) (ns':=[.int .i64 0,.int .i64 0,.sl 1 []]) (tv:=tv) ?_ (ImpL.refl _ (fun c hc => ?_)) (.cons (.refl rfl) (.cons (.refl rfl) (.cons .nils .nil))) ⟨z6 (z6 ht h4) h6s,tv,?_,?_⟩
   ·show Env.res [(4,AV.ptr p4 0),(5,tv),(6,AV.ptr p6 0)] _ [RS.c 4 9 true,RS.t 5,RS.c 6 3 true]=_
    simp only [h46,h6,Store.set_same,↓vcPre,↓z0,↓reduceIte,vcPost,vcStd,Nat.reduceEqDiff,reduceCtorEq,Nat.reduceAdd,Nat.reduceLeDiff,Int.reduceLT,Int.reduceLE,↓u_setN]
    rfl
   ·simp only [At.c,List.mem_cons,List.not_mem_nil,or_false] at hc
    rcases hc with rfl | rfl | rfl | rfl | rfl | rfl | rfl | rfl | rfl <;> rfl
   ·simp only [decA,hfin,outO]
   ·simp only [decA,hfin,tyO];rw [←hty];exact ho2
  rcases k8 with ⟨hL,hv⟩ | ⟨g,hv,hg,hh⟩
  ·have hnil:ty=[]:=List.map_eq_nil_iff.1 hL
   subst hv
   refine (z33 hI s).Q ?_
   rintro r t ⟨rfl,rfl⟩
   have F:=fin t ty (by rw [hnil];simp) q2 q3 k5 k6 (.inl ⟨hL,rfl⟩)
   simp only [q3,↓vcPre,↓z0,↓reduceIte,vcPost,vcStd,Nat.reduceEqDiff,reduceCtorEq,Nat.reduceAdd,Nat.reduceLeDiff,Int.reduceLT,Int.reduceLE,↓u_setN]
   refine F.1.Q ?_
   rintro r t' ⟨rfl,rfl⟩
   simp only [k5,k6,h46,h6,e9,spZ,snl,z3,↓vcPre,↓z0,↓reduceIte,vcPost,vcStd,Nat.reduceEqDiff,reduceCtorEq,Nat.reduceAdd,Nat.reduceLeDiff,Int.reduceLT,Int.reduceLE,↓u_setN]
   exact F.2
  ·rw [List.length_map] at hv
   subst hv
   refine (z1m hI hh (by omega)).Q ?_
   rintro r t ⟨rfl,L',hp1,hp2,rfl⟩
   have g7:¬ p7=g:=fun e=>by rw [e,hh] at q3;cases q3
   have g4:¬ p4=g:=fun e=>by rw [e,hh] at k5;cases k5
   have g6:¬ p6=g:=fun e=>by rw [e,hh] at k6;cases k6
   have t7:(s.set g (.arr 1 (L'.map (cK .i64)))) p7=some (.box [.int .i64 a.org,pv,.int .u32 a.nxt,.bool a.hm,.int .u32 a.med,.bool a.hp,.int .u32 a.prf,.bool a.atm,cv]):=by rw [Store.set_ne _ _ g7];exact q3
   have t4:(s.set g (.arr 1 (L'.map (cK .i64)))) p4=some (.box zC):=by rw [Store.set_ne _ _ g4];exact k5
   have t6:(s.set g (.arr 1 (L'.map (cK .i64)))) p6=some (.box zN):=by rw [Store.set_ne _ _ g6];exact k6
   have F:=fin (s.set g (.arr 1 (L'.map (cK .i64)))) L' (qm hp1 hp2) (z6 q2 hg) t7 t4 t6 (.inr ⟨g,by simp [hp1.length_eq],hg,Store.set_same _ _ _⟩)
   generalize s.set g (.arr 1 (L'.map (cK .i64)))=t at t7 t4 t6 F ⊢
   simp only [t7,↓vcPre,↓z0,↓reduceIte,vcPost,vcStd,Nat.reduceEqDiff,reduceCtorEq,Nat.reduceAdd,Nat.reduceLeDiff,Int.reduceLT,Int.reduceLE,↓u_setN]
   refine F.1.Q ?_
   rintro r t' ⟨rfl,rfl⟩
   simp only [t4,t6,h46,h6,e9,spZ,snl,z3,↓vcPre,↓z0,↓reduceIte,vcPost,vcStd,Nat.reduceEqDiff,reduceCtorEq,Nat.reduceAdd,Nat.reduceLeDiff,Int.reduceLT,Int.reduceLE,↓u_setN]
   exact F.2
theorem s28 {σ:Store} {B:List Int} {v:AV} (hr:Rd 1 σ (B.map cB) v) (hB:B.length≤1000000) (hu:U8s B) (inner:Bool):ACalls Tryz.prog 28 [v,.bool inner] σ (fun r s=>s=σ∧r=outD (decA inner B)):=by
 refine (zf1 hr hB hu inner).weakRes ?_
 rintro r s ⟨hs,tv,rfl,ho⟩
 cases h:decA inner B with
 | error n=>rw [h] at ho;exact Weak.tup (z2d (Q:=fun a s=>s=σ∧a=outD (.error n)) ho hs ⟨rfl,rfl⟩)
 | ok x=>rw [h] at ho;exact Weak.tup (z2d (Q:=fun a s=>s=σ∧a=outD (.ok x)) ho hs ⟨rfl,rfl⟩)
end Go.Am
namespace Go.Am
open Go.Proofs Go.Sort
def RZ (σ:Store) (v:AV) (B:List Int) (τ:Store) (id:Nat) (R:List Int) (lack:Bool) (s:Store):Prop:=∃ (at_:Nat),τ id=none∧Store.sub τ s∧Store.sub σ τ∧s id=some (.box [v,.int .i64 (at_:Int),.bool lack])∧Rd 1 σ (B.map cB) v∧at_≤B.length∧R=B.drop at_∧B.length≤1000000000∧U8s B
section
variable {σ τ s:Store} {v:AV} {B:List Int} {id:Nat} {R:List Int} {lack:Bool}
theorem RZ.base (h:RZ σ v B τ id R lack s):RZ σ v B (s.del id) id R lack s∧Store.sub τ (s.del id):=by
 obtain ⟨at_,h1,h2,h3,h4,h5⟩:=h
 exact ⟨⟨at_,by simp,yf _ _,Store.sub_trans h3 (sub_del h2 h1),h4,h5⟩,sub_del h2 h1⟩
theorem RZ.of {at_:Nat} (h:RF τ id v B at_ lack s) (h1:B.length≤1000000000) (h2:U8s B) (h3:Store.sub σ τ) (h4:Rd 1 σ (B.map cB) v):RZ σ v B τ id (B.drop at_) lack s:=⟨at_,h.1,h.2.1,h3,h.2.2.1,h4,h.2.2.2.2,rfl,h1,h2⟩
end
end Go.Am
namespace Go.Am
open Go.Proofs Go.Sort
def byL (L:List Int):List UInt8:=L.map fun n=>UInt8.ofNat n.toNat
theorem z10:∀ (L:List Int) (acc:List UInt8),toBytes (L.map cB) acc=some (acc.reverse++byL L)
 | [],acc=>by simp [toBytes,byL]
 | x::L,acc=>by
   show toBytes ([.int .u8 x]::L.map cB) acc=_
   simp only [toBytes]
   rw [z10 L];simp [byL]
theorem zao {τ:Store} {L:List Int} {v:AV} (h:Rd 1 τ (L.map cB) v) {t:Store} (ht:Store.sub τ t):ldv .str [v] t=some (.str ⟨(byL L).toArray⟩):=by
 simp only [ldv,h.1 t ht,Option.bind_some,z10,List.reverse_nil,List.nil_append,Option.map_some]
end Go.Am
namespace Go.Am
open Go.Proofs Go.Sort
theorem c30 (l:List Int) (h:l.length≤1000000):Pur Tryz.prog 30 [.sl 1 (l.map cI),.sl 1 (l.map cI)] (.bool true):=by
 refine zl Tst.F30 (by simp [Tst.F30,Fn.mkX]) fun σ => ?_
 simp only [Tst.F30,Fn.mkX,Tst.b30]
 simp only [↓vcPre,↓z0,↓reduceIte,vcPost,vcStd,Nat.reduceEqDiff,reduceCtorEq,Nat.reduceAdd,Nat.reduceLeDiff,Int.reduceLT,Int.reduceLE,↓u_setN]
 refine LoopQ.inv (S:=Nat) (fun k=>[(0,.sl 1 (l.map cI)),(1,.sl 1 (l.map cI)),(5,.int .i64 (k:Int))]) (fun _=>σ) (fun k=>k≤l.length) (fun k=>l.length+1 - k) 0 rfl (Store.sub_refl _) (by omega) ?_
 rintro k hk
 simp only [↓vcPre,↓z0,↓reduceIte,vcPost,vcStd,Nat.reduceEqDiff,reduceCtorEq,Nat.reduceAdd,Nat.reduceLeDiff,Int.reduceLT,Int.reduceLE,↓u_setN]
 intro c1
 have ek:IntKind.i64.wrap ((k:Int)+1)=((k+1:Nat):Int):=by rw [za (by unfold I64;omega)];omega
 refine ⟨by omega,by omega,by simp [cI],?_⟩
 simp only [cI,↓vcPre,↓z0,↓reduceIte,vcPost,vcStd,Nat.reduceEqDiff,reduceCtorEq,Nat.reduceAdd,Nat.reduceLeDiff,Int.reduceLT,Int.reduceLE,↓u_setN]
 rw [ek]
 exact NextQ.to (k+1) rfl (Store.sub_refl _) (by omega) (by omega)
end Go.Am
namespace Go.Am
open Go.Proofs Go.Sort
theorem k7a:decA false [64,1,1,3] = .error (6,[64,1,1,3]):=by
 have e1:chunk [64,1,1,3]=some ⟨64,1,[3],[64,1,1,3],[]⟩:=by rfl
 have h:decL false 4 [64,1,1,3] zeroAt [] [] = .error (6,[64,1,1,3]):=by
  simp only [decL,e1];rfl
 simp only [decA]
 rw [show ([64,1,1,3]:List Int).length=4 from rfl,h]
theorem k7b:∃ a,decA false [64,1,1,2] = .ok (a,[1])∧a.org=2:=by
 have e1:chunk [64,1,1,2]=some ⟨64,1,[2],[64,1,1,2],[]⟩:=by rfl
 have h:decL false 4 [64,1,1,2] zeroAt [] [] = .ok ({ zeroAt with org:=2 },[1]):=by
  simp only [decL,e1];rfl
 refine ⟨canonA { zeroAt with org:=2 },?_,rfl⟩
 simp only [decA]
 rw [show ([64,1,1,2]:List Int).length=4 from rfl,h]
 simp
set_option maxHeartbeats 1000000 in
theorem c17:Pur Tryz.prog 17 [] (.bool true):=by
 refine zl Tst.F17 (by simp [Tst.F17,Fn.mkX]) fun σ => ?_
 simp only [Tst.F17,Fn.mkX,Tst.b17]
 rw [show [AV.int .i64 0,.nils,.int .u32 0,.bool false,.int .u32 0,.bool false,.int .u32 0,.bool false,.nils]=zC from rfl,show [AV.int .i64 0,.int .i64 0,.nils]=zN from rfl]
 obtain ⟨b2,hb2,hbo⟩:=k7b
 have e9:∀ x:At,x.c.length=9:=fun _=>rfl
 have spZ:∀ x:At,splice 0 x.c zC=some x.c:=fun _=>rfl
 have szn:∀ x y z:AV,splice 0 [x,y,z] zN=some [x,y,z]:=fun _ _ _=>rfl
 simp only [z5y,↓vcPre,↓z0,↓reduceIte,vcPost,vcStd,Nat.reduceEqDiff,reduceCtorEq,Nat.reduceAdd,Nat.reduceLeDiff,Int.reduceLT,Int.reduceLE,↓u_setN]
 refine AllocQ.i0 fun q1 hq1 => ?_
 simp only [↓vcPre,↓z0,↓reduceIte,vcPost,vcStd,Nat.reduceEqDiff,reduceCtorEq,Nat.reduceAdd,Nat.reduceLeDiff,Int.reduceLT,Int.reduceLE,↓u_setN]
 have sT:=Store.sub_set σ q1 (.arr 1 [[.int .u8 64],[.int .u8 1],[.int .u8 1],[.int .u8 3]]) hq1
 have T1:(σ.set q1 (.arr 1 [[.int .u8 64],[.int .u8 1],[.int .u8 1],[.int .u8 3]])) q1=some (.arr 1 (([64,1,1,3]:List Int).map cB)):=Store.set_same _ _ _
 generalize σ.set q1 (.arr 1 [[.int .u8 64],[.int .u8 1],[.int .u8 1],[.int .u8 3]])=T at sT T1 ⊢
 have u3:U8s [64,1,1,3]:=by intro x hx;simp only [List.mem_cons,List.not_mem_nil,or_false] at hx;omega
 have u2:U8s [64,1,1,2]:=by intro x hx;simp only [List.mem_cons,List.not_mem_nil,or_false] at hx;omega
 have D1:=s28 (Rd.os T1) (by simp) u3 false
 rw [k7a] at D1
 refine D1.Q ?_
 rintro r t ⟨rfl,rfl⟩
 simp only [outD]
 simp only [↓vcPre,↓z0,↓reduceIte,vcPost,vcStd,Nat.reduceEqDiff,reduceCtorEq,Nat.reduceAdd,Nat.reduceLeDiff,Int.reduceLT,Int.reduceLE,↓u_setN]
 refine AllocQ.i0 fun p1 hp1 => ?_
 simp only [↓vcPre,↓z0,↓reduceIte,vcPost,vcStd,Nat.reduceEqDiff,reduceCtorEq,Nat.reduceAdd,Nat.reduceLeDiff,Int.reduceLT,Int.reduceLE,↓u_setN]
 refine AllocQ.i1 fun p3 h31 h13 hp3 => ?_
 simp only [h31,h13,e9,spZ,szn,↓vcPre,↓z0,↓reduceIte,vcPost,vcStd,Nat.reduceEqDiff,reduceCtorEq,Nat.reduceAdd,Nat.reduceLeDiff,Int.reduceLT,Int.reduceLE,↓u_setN]
 have sU:Store.sub t ((((t.set p1 (.box zC)).set p3 (.box zN)).set p1 (.box zeroAt.c)).set p3 (.box [.int .i64 3,.int .i64 6,.sl 1 (([64,1,1,3]:List Int).map cB)])):=z6 (z6 (zk hp1 hp3 h31) hp1) hp3
 have U3:((((t.set p1 (.box zC)).set p3 (.box zN)).set p1 (.box zeroAt.c)).set p3 (.box [.int .i64 3,.int .i64 6,.sl 1 (([64,1,1,3]:List Int).map cB)])) p3=some (.box [.int .i64 3,.int .i64 6,.sl 1 (([64,1,1,3]:List Int).map cB)]):=Store.set_same _ _ _
 generalize ((((t.set p1 (.box zC)).set p3 (.box zN)).set p1 (.box zeroAt.c)).set p3 (.box [.int .i64 3,.int .i64 6,.sl 1 (([64,1,1,3]:List Int).map cB)]))=U at sU U3 ⊢
 simp only [z5y,↓vcPre,↓z0,↓reduceIte,vcPost,vcStd,Nat.reduceEqDiff,reduceCtorEq,Nat.reduceAdd,Nat.reduceLeDiff,Int.reduceLT,Int.reduceLE,↓u_setN]
 refine AllocQ.i0 fun q2 hq2 => ?_
 simp only [↓vcPre,↓z0,↓reduceIte,vcPost,vcStd,Nat.reduceEqDiff,reduceCtorEq,Nat.reduceAdd,Nat.reduceLeDiff,Int.reduceLT,Int.reduceLE,↓u_setN]
 have sV:=Store.sub_set U q2 (.arr 1 [[.int .u8 64],[.int .u8 1],[.int .u8 1],[.int .u8 2]]) hq2
 have V1:(U.set q2 (.arr 1 [[.int .u8 64],[.int .u8 1],[.int .u8 1],[.int .u8 2]])) q2=some (.arr 1 (([64,1,1,2]:List Int).map cB)):=Store.set_same _ _ _
 generalize U.set q2 (.arr 1 [[.int .u8 64],[.int .u8 1],[.int .u8 1],[.int .u8 2]])=V at sV V1 ⊢
 have D2:=s28 (Rd.os V1) (by simp) u2 false
 rw [hb2] at D2
 refine D2.Q ?_
 rintro r w ⟨rfl,rfl⟩
 simp only [outD]
 simp only [↓vcPre,↓z0,↓reduceIte,vcPost,vcStd,Nat.reduceEqDiff,reduceCtorEq,Nat.reduceAdd,Nat.reduceLeDiff,Int.reduceLT,Int.reduceLE,↓u_setN]
 refine AllocQ.i0 fun p4 hp4 => ?_
 simp only [↓vcPre,↓z0,↓reduceIte,vcPost,vcStd,Nat.reduceEqDiff,reduceCtorEq,Nat.reduceAdd,Nat.reduceLeDiff,Int.reduceLT,Int.reduceLE,↓u_setN]
 refine AllocQ.i1 fun p6 h64 h46 hp6 => ?_
 simp only [h64,h46,e9,spZ,szn,↓vcPre,↓z0,↓reduceIte,vcPost,vcStd,Nat.reduceEqDiff,reduceCtorEq,Nat.reduceAdd,Nat.reduceLeDiff,Int.reduceLT,Int.reduceLE,↓u_setN]
 have sW:Store.sub w ((((w.set p4 (.box zC)).set p6 (.box zN)).set p4 (.box b2.c)).set p6 (.box [.int .i64 0,.int .i64 0,.sl 1 []])):=z6 (z6 (zk hp4 hp6 h64) hp4) hp6
 have W6:((((w.set p4 (.box zC)).set p6 (.box zN)).set p4 (.box b2.c)).set p6 (.box [.int .i64 0,.int .i64 0,.sl 1 []])) p6=some (.box [.int .i64 0,.int .i64 0,.sl 1 []]):=Store.set_same _ _ _
 generalize ((((w.set p4 (.box zC)).set p6 (.box zN)).set p4 (.box b2.c)).set p6 (.box [.int .i64 0,.int .i64 0,.sl 1 []]))=W at sW W6 ⊢
 have W3:=sW _ _ (sV _ _ U3)
 have hσW:Store.sub σ W:=Store.sub_trans sT (Store.sub_trans sU (Store.sub_trans sV sW))
 have hx:∀ s:Store,Rd 1 s (([64,1,1,3]:List Int).map cB) (.sl 1 (([64,1,1,3]:List Int).map cB)):=fun _=>Rd.sl
 have l1:=zao (hx W) (Store.sub_refl _)
 have hby:(byL [64,1,1,3]).toArray = #[64,1,1,3]:=rfl
 rw [hby] at l1
 have eqq:pv (.eqs false) [.str ⟨#[64,1,1,3]⟩,.str ⟨#[64,1,1,3]⟩]=some (.bool true):=by simp [pv,pEqs]
 have tk:List.take 1 b2.c=[.int .i64 2]:=by show [AV.int .i64 b2.org]=_;rw [hbo]
 simp only [W3,l1,eqq,tk,↓vcPre,↓z0,↓reduceIte,vcPost,vcStd,Nat.reduceEqDiff,reduceCtorEq,Nat.reduceAdd,Nat.reduceLeDiff,Int.reduceLT,Int.reduceLE,↓u_setN]
 refine AllocQ.i0 fun d hd => ?_
 simp only [↓vcPre,↓z0,↓reduceIte,vcPost,vcStd,Nat.reduceEqDiff,reduceCtorEq,Nat.reduceAdd,Nat.reduceLeDiff,Int.reduceLT,Int.reduceLE,↓u_setN]
 have hD:=Store.sub_set W d (.arr 1 [[.int .i64 1]]) hd
 have Dd:(W.set d (.arr 1 [[.int .i64 1]])) d=some (.arr 1 [[.int .i64 1]]):=Store.set_same _ _ _
 have D6:=hD _ _ W6
 have hsame:ACalls Tryz.prog 30 [.sl 1 (([1]:List Int).map cI),.os d 1 0 1] (W.set d (.arr 1 [[.int .i64 1]])) (fun r s=>r = .bool true∧Store.sub W s):=by
  refine ACalls.weakArgs (c30 [1] (by simp) W).1 (WeakL.freeze 1 rfl Dd (by simp) (WeakL.pure ?_))
  refine (c30 [1] (by simp) _).mono fun r s ⟨x,y⟩=>⟨by first | exact y | exact x,by subst_vars;exact sub_del hD hd⟩
 refine hsame.Q ?_
 rintro r y ⟨rfl,hy⟩
 have Y6:=hy _ _ W6
 simp only [Y6,↓vcPre,↓z0,↓reduceIte,vcPost,vcStd,Nat.reduceEqDiff,reduceCtorEq,Nat.reduceAdd,Nat.reduceLeDiff,Int.reduceLT,Int.reduceLE,↓u_setN]
 refine (c31 16777216).Q ?_
 rw [show decide (goodN 16777216)=true by decide]
 simp only [↓vcPre,↓z0,↓reduceIte,vcPost,vcStd,Nat.reduceEqDiff,reduceCtorEq,Nat.reduceAdd,Nat.reduceLeDiff,Int.reduceLT,Int.reduceLE,↓u_setN]
 refine (c31 2130706433).Q ?_
 rw [show decide (goodN 2130706433)=false by decide]
 simp only [↓vcPre,↓z0,↓reduceIte,vcPost,vcStd,Nat.reduceEqDiff,reduceCtorEq,Nat.reduceAdd,Nat.reduceLeDiff,Int.reduceLT,Int.reduceLE,↓u_setN]
 exact Store.sub_trans hσW hy
end Go.Am
namespace Go.Am
open Go.Proofs Go.Sort
theorem z2z (l:List Int):U8s (encW l):=by
 intro x hx
 simp only [encW,List.mem_flatMap] at hx
 obtain ⟨n,_,h⟩:=hx
 exact z13 n x h
theorem z3t (l:List Seg):U8s (encPath l):=by
 intro x hx
 simp only [encPath,List.mem_flatMap] at hx
 obtain ⟨s,_,h⟩:=hx
 simp only [encSeg,List.mem_append,List.mem_cons,List.not_mem_nil,or_false] at h
 rcases h with (rfl | rfl) | h
 ·omega
 ·omega
 ·exact z2z _ x h
theorem z3s {l:List Seg} (h:∀ s ∈ l,s.ls.length≤5):(encPath l).length≤22*l.length:=by
 induction l with
 | nil=>simp [encPath]
 | cons s l ih =>
   have h1:=h s (by simp)
   have h2:=ih fun x hx=>h x (by simp [hx])
   have h3:=zu s.ls
   simp only [encPath,List.flatMap_cons,List.length_append,encSeg,List.length_cons,List.length_nil] at h2 ⊢
   omega
theorem xl {fl k:Int} {v:List Int} (h1:0≤fl∧fl<240) (h2:0≤k∧k<256) (h3:U8s v):U8s (oneA fl k v):=by
 intro x hx
 unfold oneA at hx
 rcases List.mem_append.1 hx with h | h
 ·split at h
  ·simp only [List.mem_cons,List.not_mem_nil,or_false] at h;omega
  ·simp only [List.mem_cons,List.not_mem_nil,or_false] at h;omega
 ·exact h3 x h
theorem z82 (a:At):U8s (encA a):=by
 have e1:U8s (oneA 64 1 [a.org % 256]):=xl (by omega) (by omega) fun x hx=>by simp only [List.mem_singleton] at hx;omega
 have e2:=xl (fl:=64) (k:=2) (by omega) (by omega) (z3t a.path)
 have e3:=xl (fl:=64) (k:=3) (by omega) (by omega) (z13 a.nxt)
 have e4:U8s (if a.hm then oneA 128 4 (b4 a.med) else []):=by
  split
  ·exact xl (by omega) (by omega) (z13 _)
  ·intro x hx;simp at hx
 have e5:U8s (if a.hp then oneA 64 5 (b4 a.prf) else []):=by
  split
  ·exact xl (by omega) (by omega) (z13 _)
  ·intro x hx;simp at hx
 have e6:U8s (if a.atm then oneA 64 6 [] else []):=by
  split
  ·exact xl (by omega) (by omega) fun x hx=>by simp at hx
  ·intro x hx;simp at hx
 have e8:U8s (if a.cms=[] then [] else oneA 192 8 (encW a.cms)):=by
  split
  ·intro x hx;simp at hx
  ·exact xl (by omega) (by omega) (z2z _)
 unfold encA
 exact (((((e1.append e2).append e3).append e4).append e5).append e6).append e8
theorem yk (fl k:Int) (v:List Int):3≤(oneA fl k v).length∧(oneA fl k v).length≤4+v.length:=by
 rw [x7];split <;> omega
theorem z48 (a:At):4≤(encA (rightK a)).length∧(encA (rightK a)).length≤1000:=by
 have hp:(rightK a).path.length≤4∧∀ s ∈ (rightK a).path,s.ls.length≤5:=by
  constructor
  ·have:=List.length_filter_le okS ((a.path.take 4).map cutS)
   simp only [rightK,canonA,rightP]
   simp only [List.length_map,List.length_take] at this
   omega
  ·intro s hs
   simp only [rightK,canonA,rightP] at hs
   have h2:=(List.mem_filter.mp hs).1
   simp only [List.mem_map] at h2
   obtain ⟨x,_,rfl⟩:=h2
   unfold cutS;simp only [List.length_take];omega
 have hc:(rightK a).cms.length≤5:=by
  simp only [rightK,canonA]
  have:=w7 (a.cms.take 5)
  simp only [List.length_take] at this
  omega
 generalize rightK a=r at hp hc ⊢
 have h1:=z3s hp.2
 have h2:=zu r.cms
 have b:∀ n,(b4 n).length=4:=fun _=>rfl
 unfold encA
 simp only [List.length_append]
 have z1:=yk 64 1 [r.org % 256]
 have z1e:(oneA 64 1 [r.org % 256]).length=4:=rfl
 have z2:=yk 64 2 (encPath r.path)
 have z3:=yk 64 3 (b4 r.nxt)
 have z3b:=b r.nxt
 have q4:(if r.hm=true then oneA 128 4 (b4 r.med) else []).length≤8:=by
  split
  ·have:=(yk 128 4 (b4 r.med)).2;have:=(yk 64 5 (b4 r.prf)).2;have:=b r.med;have:=b r.prf;omega
  ·simp
 have q5:(if r.hp=true then oneA 64 5 (b4 r.prf) else []).length≤8:=by
  split
  ·have:=(yk 128 4 (b4 r.med)).2;have:=(yk 64 5 (b4 r.prf)).2;have:=b r.med;have:=b r.prf;omega
  ·simp
 have q6:(if r.atm=true then oneA 64 6 [] else []).length≤8:=by
  split
  ·have:=(yk 64 6 []).2;simp only [List.length_nil] at this;omega
  ·simp
 have q8:(if r.cms=[] then [] else oneA 192 8 (encW r.cms)).length≤24:=by
  split
  ·simp
  ·have:=(yk 192 8 (encW r.cms)).2;omega
 omega
end Go.Am
namespace Go.Am
open Go.Proofs Go.Sort
theorem za9:[AV.int .i64 0,.nils,.int .u32 0,.bool false,.int .u32 0,.bool false,.int .u32 0,.bool false,.nils]=zC:=rfl
theorem zaa:[AV.int .i64 0,.int .i64 0,.nils]=zN:=rfl
theorem z4a (a:At):encOk (shortA a):=by
 refine ⟨by simp only [shortA,List.length_map,List.length_take];omega,fun s hs => ?_,by simp only [shortA,List.length_take];omega⟩
 simp only [shortA,List.mem_map] at hs
 obtain ⟨x,_,rfl⟩:=hs
 simp only [shortS,List.length_take];omega
theorem encOk.ok {a:At} (h:encOk a):a.ok:=⟨by have:=h.1;omega,fun s hs=>by have:=h.2.1 s hs;show s.ls.length≤_;omega,by have:=h.2.2;omega⟩
theorem z5d (a:At):encOk (rightK (shortA a))∧(rightK (shortA a)).path.length≤4∧(∀ s ∈ (rightK (shortA a)).path,s.ls.length≤5)∧(rightK (shortA a)).cms.length≤5:=by
 have h1:(rightK (shortA a)).path.length≤4:=by
  have:=List.length_filter_le okS (((shortA a).path.take 4).map cutS)
  simp only [rightK,canonA,rightP]
  simp only [List.length_map,List.length_take] at this
  omega
 have h2:∀ s ∈ (rightK (shortA a)).path,s.ls.length≤5:=fun s hs=>by
  simp only [rightK,canonA,rightP] at hs
  have h2:=(List.mem_filter.mp hs).1
  simp only [List.mem_map] at h2
  obtain ⟨x,_,rfl⟩:=h2
  unfold cutS;simp only [List.length_take];omega
 have h3:(rightK (shortA a)).cms.length≤5:=by
  simp only [rightK,canonA]
  have:=w7 ((shortA a).cms.take 5)
  simp only [List.length_take] at this
  omega
 exact ⟨⟨by omega,fun s hs=>by have:=h2 s hs;omega,by omega⟩,h1,h2,h3⟩
end Go.Am
namespace Go.Am.Ts15
open Go.Proofs Go.Am.B
def t7_83:BC:=z [⟨some 83,none,.load (.ld 9 true),[.t 2]⟩,g 84 27 [.t 83],m 82 84,e 85 0 82,e 86 1 82,m 9 85,m 10 86] [2,8,9,10] (z [m 88 9,g 89 28 [.t 88,.c (.bool true)],m 87 89,e 90 0 87,e 91 1 87,e 92 2 87,⟨some 11,none,.alloc (.alloc [(.int .i64 0),.nils,(.int .u32 0),(.bool false),(.int .u32 0),(.bool false),(.int .u32 0),(.bool false),.nils]),[]⟩,⟨some 13,none,.alloc (.alloc [(.int .i64 0),(.int .i64 0),.nils]),[]⟩,s 9 11 90,m 12 91,s 3 13 92] [2,8,9,10,11,13] (z [m 93 10,c 94 .eql 93 0,m 95 94,⟨some 96,some (95,true),.pure (.mov),[.t 9]⟩,⟨some 97,some (95,true),.pure (.len),[.t 96]⟩,⟨some 98,some (95,true),.pure (.mov),[.t 8]⟩,⟨some 99,some (95,true),.pure (.bin .eql),[.t 97,.t 98]⟩,⟨some 100,none,.pick,[.t 95,.t 99,.c (.bool false)]⟩,m 101 100,⟨some 102,some (101,true),.pure (.fld 0),[.t 13]⟩,⟨some 103,some (101,true),.load (.ld 1 false),[.t 102]⟩,⟨some 104,some (101,true),.pure (.bin .eql),[.t 103,.c (.int .i64 0)]⟩,⟨some 105,none,.pick,[.t 101,.t 104,.c (.bool false)]⟩,m 106 105,⟨some 107,some (106,true),.load (.ld 9 true),[.t 2]⟩,⟨some 108,some (106,true),.load (.ld 9 true),[.t 11]⟩,⟨some 109,some (106,true),.loud (.call 29),[.t 107,.t 108]⟩,⟨some 110,none,.pick,[.t 106,.t 109,.c (.bool false)]⟩,m 111 110,⟨some 112,some (111,true),.loud (.call 17),[]⟩,⟨some 113,none,.pick,[.t 111,.t 112,.c (.bool false)]⟩,m 4 113] [4] .ret))
def t7_71:BC := .seq (z [f 71 8 2,l 72 1 71,u 73 .len 72,c 74 .gtr 73 0] [2,8,74] (.cond (.t 74) (.ops [m 75 8,c 76 .add 75 3,f 77 8 2,l 78 1 77,u 79 .len 78,p 80 (.bin .mul) [.c (.int .i64 4),.t 79],b 81 .add 76 80,m 8 81] [2,8]) .skip)) t7_83
def t7_67:BC := .seq (z [f 67 7 2,l 68 1 67] [2,8,68] (.cond (.t 68) (.ops [m 69 8,c 70 .add 69 3,m 8 70] [2,8]) .skip)) t7_71
def t7_63:BC := .seq (z [f 63 5 2,l 64 1 63] [2,8,64] (.cond (.t 64) (.ops [m 65 8,c 66 .add 65 7,m 8 66] [2,8]) .skip)) t7_67
def t7_59:BC := .seq (z [f 59 3 2,l 60 1 59] [2,8,60] (.cond (.t 60) (.ops [m 61 8,c 62 .add 61 7,m 8 62] [2,8]) .skip)) t7_63
def t7_55:BC := .seq (z [m 55 5,c 56 .gtr 55 255] [2,8,56] (.cond (.t 56) (.ops [m 57 8,c 58 .add 57 1,m 8 58] [2,8]) .skip)) t7_59
def t7_52:BC := .seq (.wk 11 (.ops [m 52 5,p 53 (.bin .add) [.c (.int .i64 7),.t 52],c 54 .add 53 7,m 8 54] [2,5,8])) t7_55
def b7:BC:=z [⟨some 2,none,.alloc (.box),[.t 0]⟩,k 4 (.bool false)] [1,2] (z [⟨some 14,none,.load (.ld 9 true),[.t 2]⟩,g 15 13 [.t 14],g 16 12 [.t 15],s 9 2 16] [1,2] (z [j 5 0] [1,2,5] (.seq (z [j 6 0] [1,2,5,6] (.block 0 (.loop [1,2,5,6] (.seq (z [m 17 6,f 18 1 2,l 19 1 18,u 20 .len 19,b 21 .lss 17 20] [1,2,5,6,21] (.cond (.t 21) .skip (.exit 0))) (.seq (.block 1 (.ops [m 24 5,c 25 .add 24 2,f 26 1 2,l 27 1 26,m 28 6,x 29 2 27 28,f 30 1 29,l 31 1 30,u 32 .len 31,p 33 (.bin .mul) [.c (.int .i64 4),.t 32],b 34 .add 25 33,m 5 34] [1,2,5,6])) (.ops [m 22 6,c 23 .add 22 1,m 6 23] [1,2,5,6])))))) (.seq (z [m 35 1,g 36 16 [.t 35,.c (.int .i64 0),.c (.int .i64 255)],m 7 36] [2,5,7] (z [m 37 7,c 38 .gtr 37 0] [2,5,7,38] (.cond (.t 38) (z [f 39 1 2,m 41 7,l 40 1 39,⟨some 42,none,.alloc (.make 1 [(.int .u32 0)] 4),[.t 41,.t 41]⟩,p 43 (.build [(.int .i64 0),.nils] [(0,1),(1,1)]) [.c (.int .i64 1),.t 42],⟨some 44,none,.alloc (.mksl 2 1),[.t 43]⟩,⟨some 45,none,.loud (.app 2 32),[.t 40,.t 44]⟩,f 46 1 2,s 1 46 45] [2,5,7] (.ops [m 47 5,c 48 .add 47 2,m 49 7,p 50 (.bin .mul) [.c (.int .i64 4),.t 49],b 51 .add 48 50,m 5 51] [2,5])) .skip))) t7_52))))
def F7:Fn Tryz.prog 7:=Fn.mkW false [11] b7 [.t 4] 114 Tryz.f7 _ Tryz.func7 (by decide) rfl Tryz.ntmps7 (by kernel_rfl) (by kernel_rfl)
def t12_60:BC := .seq (.wk 13 (.ops [m 60 3,f 61 1 1,s 1 61 60] [1,2])) (.seq (z [f 62 8 1,l 63 1 62,u 64 .len 63,c 65 .gtr 64 5] [1,2,65] (.cond (.t 65) (.ops [f 66 8 1,l 67 1 66,p 68 (.slice 1 false true) [.t 67,.c (.int .i64 5)],f 69 8 1,s 1 69 68] [1,2]) .skip)) (z [⟨some 70,none,.load (.ld 9 true),[.t 1]⟩,g 71 41 [.t 70],s 9 2 71] [2] .ret))
def t12_3:BC:=z [k 3 .nils] [1,2,3] (.seq (z [j 4 0] [1,2,3,4] (.block 0 (.loop [1,2,3,4] (.seq (z [m 18 4,f 19 1 1,l 20 1 19,u 21 .len 20,b 22 .lss 18 21,m 23 22,⟨some 24,some (23,true),.pure (.mov),[.t 4]⟩,⟨some 25,some (23,true),.pure (.bin .lss),[.t 24,.c (.int .i64 4)]⟩,⟨some 26,none,.pick,[.t 23,.t 25,.c (.bool false)]⟩] [1,2,3,4,26] (.cond (.t 26) .skip (.exit 0))) (.seq (.block 1 (z [f 29 1 1,l 30 1 29,m 31 4,x 32 2 30 31,⟨some 33,none,.load (.ld 2 true),[.t 32]⟩,⟨some 5,none,.alloc (.alloc [(.int .i64 0),.nils]),[]⟩,s 2 5 33] [1,2,3,4,5] (.seq (z [f 34 1 5,l 35 1 34,u 36 .len 35,c 37 .gtr 36 5] [1,2,3,4,5,37] (.cond (.t 37) (.ops [f 38 1 5,l 39 1 38,p 40 (.slice 1 false true) [.t 39,.c (.int .i64 5)],f 41 1 5,s 1 41 40] [1,2,3,4,5]) .skip)) (z [f 42 1 5,l 43 1 42,u 44 .len 43,c 45 .gtr 44 0,m 46 45,⟨some 47,some (46,true),.pure (.fld 0),[.t 5]⟩,⟨some 48,some (46,true),.load (.ld 1 false),[.t 47]⟩,⟨some 49,some (46,true),.pure (.bin .eql),[.t 48,.c (.int .i64 1)]⟩,⟨some 50,some (46,true),.pure (.mov),[.t 49]⟩,⟨some 51,some (50,false),.pure (.fld 0),[.t 5]⟩,⟨some 52,some (50,false),.load (.ld 1 false),[.t 51]⟩,⟨some 53,some (50,false),.pure (.bin .eql),[.t 52,.c (.int .i64 2)]⟩,⟨some 54,some (46,true),.pick,[.t 50,.c (.bool true),.t 53]⟩,⟨some 55,none,.pick,[.t 46,.t 54,.c (.bool false)]⟩] [1,2,3,4,5,55] (.cond (.t 55) (.ops [m 56 3,⟨some 57,none,.load (.ld 2 true),[.t 5]⟩,⟨some 58,none,.alloc (.mksl 2 1),[.t 57]⟩,⟨some 59,none,.loud (.app 2 32),[.t 56,.t 58]⟩,m 3 59] [1,2,3,4]) .skip))))) (.ops [m 27 4,c 28 .add 27 1,m 4 28] [1,2,3,4])))))) t12_60)
def b12:BC:=z [⟨some 1,none,.alloc (.box),[.t 0]⟩,⟨some 2,none,.alloc (.alloc [(.int .i64 0),.nils,(.int .u32 0),(.bool false),(.int .u32 0),(.bool false),(.int .u32 0),(.bool false),.nils]),[]⟩] [1,2] (z [f 6 0 1,l 7 1 6,g 8 16 [.t 7,.c (.int .i64 0),.c (.int .i64 2)],f 9 0 1,s 1 9 8] [1,2] (.seq (z [f 10 2 1,l 11 1 10,g 12 32 [.t 11],u 13 .not 12] [1,2,13] (.cond (.t 13) (.ops [f 14 2 1,l 15 1 14,g 16 40 [.t 15],f 17 2 1,s 1 17 16] [1,2]) .skip)) t12_3))
def F12:Fn Tryz.prog 12:=Fn.mkW false [13] b12 [.c 2 9 true] 72 Tryz.f12 _ Tryz.func12 (by decide) rfl Tryz.ntmps12 (by kernel_rfl) (by kernel_rfl)
def b79:BC:=z [k 2 .nils] [0] (z [k 3 .nils] [0,3] (.seq (z [j 4 0] [0,3,4] (.block 0 (.loop [0,3,4] (.seq (z [m 5 4,m 6 0,u 7 .len 6,b 8 .lss 5 7] [0,3,4,8] (.cond (.t 8) .skip (.exit 0))) (.seq (.block 1 (z [m 11 3] [0,4,11] (z [m 12 0] [0,4,11,12] (z [m 13 4] [0,4,11,12,13] (z [x 14 2 12 13] [0,4,11,14] (z [f 15 0 14] [0,4,11,15] (z [m 18 0] [0,4,11,15,18] (z [m 19 4] [0,4,11,15,18,19] (z [x 20 2 18 19] [0,4,11,15,20] (z [f 21 1 20] [0,4,11,15,21] (z [l 22 1 21] [0,4,11,15,22] (.both (z [l 16 1 15] [0,4,11,16,22] (z [⟨some 17,none,.alloc (.mksl 1 0),[]⟩] [0,4,11,16,17,22] (z [⟨some 23,none,.loud (.app 1 4),[.t 17,.t 22]⟩] [0,4,11,16,23] (z [p 24 (.build [(.int .i64 0),.nils] [(0,1),(1,1)]) [.t 16,.t 23]] [0,4,11,24] (z [⟨some 25,none,.alloc (.mksl 2 1),[.t 24]⟩] [0,4,11,25] (z [⟨some 26,none,.loud (.app 2 32),[.t 11,.t 25]⟩] [0,4,26] (z [m 3 26] [0,3,4] (.ops [] [0,3,4])))))))) (.both (z [⟨some 17,none,.alloc (.mksl 1 0),[]⟩] [0,4,11,15,17,22] (.both (z [l 16 1 15] [0,4,11,16,17,22] (z [⟨some 23,none,.loud (.app 1 4),[.t 17,.t 22]⟩] [0,4,11,16,23] (z [p 24 (.build [(.int .i64 0),.nils] [(0,1),(1,1)]) [.t 16,.t 23]] [0,4,11,24] (z [⟨some 25,none,.alloc (.mksl 2 1),[.t 24]⟩] [0,4,11,25] (z [⟨some 26,none,.loud (.app 2 32),[.t 11,.t 25]⟩] [0,4,26] (z [m 3 26] [0,3,4] (.ops [] [0,3,4]))))))) (.both (z [⟨some 23,none,.loud (.app 1 4),[.t 17,.t 22]⟩] [0,4,11,15,23] (z [l 16 1 15] [0,4,11,16,23] (z [p 24 (.build [(.int .i64 0),.nils] [(0,1),(1,1)]) [.t 16,.t 23]] [0,4,11,24] (z [⟨some 25,none,.alloc (.mksl 2 1),[.t 24]⟩] [0,4,11,25] (z [⟨some 26,none,.loud (.app 2 32),[.t 11,.t 25]⟩] [0,4,26] (z [m 3 26] [0,3,4] (.ops [] [0,3,4]))))))) (.top)))) (.top)))))))))))))) (.ops [m 9 4,c 10 .add 9 1,m 4 10] [0,3,4])))))) (.seq (.wk 6 (.ops [m 27 3,m 2 27] [2])) .ret)))
def F79:Fn Tryz.prog 79:=Fn.mkW false [6] b79 [.t 2] 28 Tryz.f79 _ Tryz.func79 (by decide) rfl Tryz.ntmps79 (by kernel_rfl) (by kernel_rfl)
end Go.Am.Ts15
namespace Go.Am
open Go.Proofs Go.Sort
def At.cV (a:At) (v:AV):List AV:=[.int .i64 a.org,v,.int .u32 a.nxt,.bool a.hm,.int .u32 a.med,.bool a.hp,.int .u32 a.prf,.bool a.atm,.sl 1 (a.cms.map cU)]
def At.cW (a:At) (v w:AV):List AV:=[.int .i64 a.org,v,.int .u32 a.nxt,.bool a.hm,.int .u32 a.med,.bool a.hp,.int .u32 a.prf,.bool a.atm,w]
theorem zf3 (p:List Seg) (h:p.length≤1000000) (ho:∀ s ∈ p,s.ok) (σ:Store):ACalls Tryz.prog 79 [.sl 2 (p.map Seg.c)] σ (fun v s=>Store.sub σ s∧Own 2 σ (p.map Seg.c) v s):=by
 refine zf Ts15.F79 (by simp [Ts15.F79,Fn.mkW]) ?_
 simp only [Ts15.F79,Fn.mkW,Ts15.b79]
 simp only [↓vcPre,↓z0,↓reduceIte,vcPost,vcStd,Nat.reduceEqDiff,reduceCtorEq,Nat.reduceAdd,Nat.reduceLeDiff,Int.reduceLT,Int.reduceLE,↓u_setN]
 refine LoopQ.inv (S:=Nat×AV×Store) (fun q=>[(0,.sl 2 (p.map Seg.c)),(3,q.2.1),(4,.int .i64 (q.1:Int))]) (fun q=>q.2.2)
  (fun q=>q.1≤p.length∧Store.sub σ q.2.2∧OwnP σ (p.take q.1) q.2.1 q.2.2) (fun q=>p.length+1 - q.1) (0,.nils,σ) rfl (Store.sub_refl _) ⟨by simp only;omega,Store.sub_refl _,OwnP.nil⟩ ?_
 rintro ⟨k,v,s⟩ ⟨hk,hs,ho'⟩
 simp only at hk hs ho'
 simp only [↓vcPre,↓z0,↓reduceIte,vcPost,vcStd,Nat.reduceEqDiff,reduceCtorEq,Nat.reduceAdd,Nat.reduceLeDiff,Int.reduceLT,Int.reduceLE,↓u_setN]
 refine ⟨fun c1 => ?_,fun c1 => ?_⟩
 ·have ek:IntKind.i64.wrap ((k:Int)+1)=((k+1:Nat):Int):=by rw [za (by unfold I64;omega)];omega
  have hx:=ho _ (List.getElem_mem c1)
  unfold Seg.ok at hx
  refine ⟨c1,c1,by simp [Seg.c],?_⟩
  simp only [Seg.c,↓vcPre,↓z0,↓reduceIte,vcPost,vcStd,Nat.reduceEqDiff,reduceCtorEq,Nat.reduceAdd,Nat.reduceLeDiff,Int.reduceLT,Int.reduceLE,↓u_setN]
  have hroom:(([]:List (List AV)).length+(p[k].ls.map cU).length)*4≤140737488355328:=by simp;omega
  refine ⟨?_,?_⟩
  ·refine AllocQ.i0 fun i hi => ?_
   simp only [↓vcPre,↓z0,↓reduceIte,vcPost,vcStd,Nat.reduceEqDiff,reduceCtorEq,Nat.reduceAdd,Nat.reduceLeDiff,Int.reduceLT,Int.reduceLE,↓u_setN]
   refine ym (zj (Store.set_same _ _ _) rfl) xy hroom fun j hj => ?_
   simp only [↓vcPre,↓z0,↓reduceIte,vcPost,vcStd,Nat.reduceEqDiff,reduceCtorEq,Nat.reduceAdd,Nat.reduceLeDiff,Int.reduceLT,Int.reduceLE,↓u_setN]
   have hji:j≠i:=fun e=>by subst e;rw [Store.set_same] at hj;cases hj
   have hj0:s j=none:=by rw [Store.set_ne _ _ hji] at hj;exact hj
   have hsub:Store.sub s (((s.set i (Obj.arr 1 [])).del i).set j (Obj.arr 1 (List.map cU p[k].ls))):=fun y o hy=>by
    have h1:y≠i:=fun e=>by subst e;rw [hi] at hy;cases hy
    have h2:y≠j:=fun e=>by subst e;rw [hj0] at hy;cases hy
    rw [Store.set_ne _ _ h2,Store.del_ne _ h1,Store.set_ne _ _ h1];exact hy
   have hjs:(((s.set i (Obj.arr 1 [])).del i).set j (Obj.arr 1 (List.map cU p[k].ls))) j=some (.arr 1 (p[k].ls.map cU)):=Store.set_same _ _ _
   refine AllocQ.i0 fun b hb => ?_
   simp only [Nat.zero_add,↓vcPre,↓z0,↓reduceIte,vcPost,vcStd,Nat.reduceEqDiff,reduceCtorEq,Nat.reduceAdd,Nat.reduceLeDiff,Int.reduceLT,Int.reduceLE,↓u_setN]
   refine OwnP.app (τ:=σ) (s0:=s) (x:=p[k]) (j:=j) hs (Store.sub_trans hsub (Store.sub_set _ b _ hb)) ho' (Store.sub_set _ b _ hb _ _ hjs) hj0 (zj (Store.set_same _ _ _) rfl) (by simp;omega) fun v' s' hs' ho'' => ?_
   rw [ek]
   refine NextQ.to (k+1,v',s') rfl (Store.sub_refl _) (by simp only;omega) ⟨by simp only;omega,hs',?_⟩
   simp only [List.take_add_one,List.getElem?_eq_getElem c1,Option.toList_some]
   exact ho''
  ·refine AllocQ.i0 fun i hi => ?_
   simp only [↓vcPre,↓z0,↓reduceIte,vcPost,vcStd,Nat.reduceEqDiff,reduceCtorEq,Nat.reduceAdd,Nat.reduceLeDiff,Int.reduceLT,Int.reduceLE,↓u_setN]
   refine ⟨⟨by simp [Seg.c],?_⟩,?_⟩
   ·simp only [Seg.c,↓vcPre,↓z0,↓reduceIte,vcPost,vcStd,Nat.reduceEqDiff,reduceCtorEq,Nat.reduceAdd,Nat.reduceLeDiff,Int.reduceLT,Int.reduceLE,↓u_setN]
    refine ym (zj (Store.set_same _ _ _) rfl) xy hroom fun j hj => ?_
    simp only [↓vcPre,↓z0,↓reduceIte,vcPost,vcStd,Nat.reduceEqDiff,reduceCtorEq,Nat.reduceAdd,Nat.reduceLeDiff,Int.reduceLT,Int.reduceLE,↓u_setN]
    have hji:j≠i:=fun e=>by subst e;rw [Store.set_same] at hj;cases hj
    have hj0:s j=none:=by rw [Store.set_ne _ _ hji] at hj;exact hj
    have hsub:Store.sub s (((s.set i (Obj.arr 1 [])).del i).set j (Obj.arr 1 (List.map cU p[k].ls))):=fun y o hy=>by
     have h1:y≠i:=fun e=>by subst e;rw [hi] at hy;cases hy
     have h2:y≠j:=fun e=>by subst e;rw [hj0] at hy;cases hy
     rw [Store.set_ne _ _ h2,Store.del_ne _ h1,Store.set_ne _ _ h1];exact hy
    have hjs:(((s.set i (Obj.arr 1 [])).del i).set j (Obj.arr 1 (List.map cU p[k].ls))) j=some (.arr 1 (p[k].ls.map cU)):=Store.set_same _ _ _
    refine AllocQ.i0 fun b hb => ?_
    simp only [Nat.zero_add,↓vcPre,↓z0,↓reduceIte,vcPost,vcStd,Nat.reduceEqDiff,reduceCtorEq,Nat.reduceAdd,Nat.reduceLeDiff,Int.reduceLT,Int.reduceLE,↓u_setN]
    refine OwnP.app (τ:=σ) (s0:=s) (x:=p[k]) (j:=j) hs (Store.sub_trans hsub (Store.sub_set _ b _ hb)) ho' (Store.sub_set _ b _ hb _ _ hjs) hj0 (zj (Store.set_same _ _ _) rfl) (by simp;omega) fun v' s' hs' ho'' => ?_
    rw [ek]
    refine NextQ.to (k+1,v',s') rfl (Store.sub_refl _) (by simp only;omega) ⟨by simp only;omega,hs',?_⟩
    simp only [List.take_add_one,List.getElem?_eq_getElem c1,Option.toList_some]
    exact ho''
   ·refine ym (zj (Store.set_same _ _ _) rfl) xy hroom fun j hj => ?_
    refine ⟨by simp [Seg.c],?_⟩
    simp only [Seg.c,↓vcPre,↓z0,↓reduceIte,vcPost,vcStd,Nat.reduceEqDiff,reduceCtorEq,Nat.reduceAdd,Nat.reduceLeDiff,Int.reduceLT,Int.reduceLE,↓u_setN]
    have hji:j≠i:=fun e=>by subst e;rw [Store.set_same] at hj;cases hj
    have hj0:s j=none:=by rw [Store.set_ne _ _ hji] at hj;exact hj
    have hsub:Store.sub s (((s.set i (Obj.arr 1 [])).del i).set j (Obj.arr 1 (List.map cU p[k].ls))):=fun y o hy=>by
     have h1:y≠i:=fun e=>by subst e;rw [hi] at hy;cases hy
     have h2:y≠j:=fun e=>by subst e;rw [hj0] at hy;cases hy
     rw [Store.set_ne _ _ h2,Store.del_ne _ h1,Store.set_ne _ _ h1];exact hy
    have hjs:(((s.set i (Obj.arr 1 [])).del i).set j (Obj.arr 1 (List.map cU p[k].ls))) j=some (.arr 1 (p[k].ls.map cU)):=Store.set_same _ _ _
    refine AllocQ.i0 fun b hb => ?_
    simp only [Nat.zero_add,↓vcPre,↓z0,↓reduceIte,vcPost,vcStd,Nat.reduceEqDiff,reduceCtorEq,Nat.reduceAdd,Nat.reduceLeDiff,Int.reduceLT,Int.reduceLE,↓u_setN]
    refine OwnP.app (τ:=σ) (s0:=s) (x:=p[k]) (j:=j) hs (Store.sub_trans hsub (Store.sub_set _ b _ hb)) ho' (Store.sub_set _ b _ hb _ _ hjs) hj0 (zj (Store.set_same _ _ _) rfl) (by simp;omega) fun v' s' hs' ho'' => ?_
    rw [ek]
    refine NextQ.to (k+1,v',s') rfl (Store.sub_refl _) (by simp only;omega) ⟨by simp only;omega,hs',?_⟩
    simp only [List.take_add_one,List.getElem?_eq_getElem c1,Option.toList_some]
    exact ho''
 ·have hkl:p.take k=p:=List.take_of_length_le (by omega)
  rw [hkl] at ho'
  refine WkQ.of (WeakE.ownP ho' hs fun σ' h1 h2=>WeakE.pure ?_)
  simp only [↓vcPre,↓z0,↓reduceIte,vcPost,vcStd,Nat.reduceEqDiff,reduceCtorEq,Nat.reduceAdd,Nat.reduceLeDiff,Int.reduceLT,Int.reduceLE,↓u_setN]
  exact EndQ.to σ' v rfl (Store.sub_refl _) ⟨h1,h2⟩
end Go.Am
namespace Go.Am
open Go.Proofs Go.Sort
theorem z26 (E:Env) (a:At) (ha:a.ok) {P:List Seg} {pv:AV} {σ t:Store} {i j:Nat} {z:List AV} (hz:z.length=9) (hi:t i=some (.box (a.cV pv))) (hp:Own 2 σ (P.map Seg.c) pv t) (hj:t j=some (.box z)) (hij:¬ i=j) (hi0:σ i=none) (hj0:σ j=none) (hs:Store.sub σ t) {nn rr:Env→Store→Prop} {x:Nat→Env→Store→Prop}
 (hr:∀ v s',Store.sub σ s'→Own 1 σ ((canonC a.cms).map cU) v s'→Own 2 σ (P.map Seg.c) pv s'→s' j=some (.box (a.cW pv v))→rr [(2,.ptr j 0)] s') :
 bwp Tryz.prog Tsg.t41_3 ((1,.ptr i 0)::(2,.ptr j 0)::E) t nn rr x:=by
 simp only [Tsg.t41_3]
 have hji:¬ j=i:=fun e=>hij e.symm
 have hcm:a.cms.length≤1000000:=ha.2.2
 simp only [↓vcPre,↓z0,↓reduceIte,vcPost,vcStd,Nat.reduceEqDiff,reduceCtorEq,Nat.reduceAdd,Nat.reduceLeDiff,Int.reduceLT,Int.reduceLE,↓u_setN]
 refine LoopQ.inv (S:=Nat×AV×Store) (fun q=>[(1,.ptr i 0),(2,.ptr j 0),(3,q.2.1),(4,.int .i64 (q.1:Int))]) (fun q=>q.2.2) (fun q=>q.1≤a.cms.length∧Store.sub t q.2.2∧Own 1 t (((a.cms.take q.1).foldl putL []).map cU) q.2.1 q.2.2) (fun q=>a.cms.length+1 - q.1) (0,.nils,t) rfl (Store.sub_refl _) ⟨by simp only;omega,Store.sub_refl _,.nil⟩ ?_
 rintro ⟨k,v,s⟩ ⟨hk,hts,ho⟩
 simp only at hk hts ho
 have hsi:=hts _ _ hi
 have hsj:=hts _ _ hj
 simp only [hsi,At.cV,↓vcPre,↓z0,↓reduceIte,vcPost,vcStd,Nat.reduceEqDiff,reduceCtorEq,Nat.reduceAdd,Nat.reduceLeDiff,Int.reduceLT,Int.reduceLE,↓u_setN]
 refine ⟨fun c1 => ?_,fun c1 => ?_⟩
 ·have ek:IntKind.i64.wrap ((k:Int)+1)=((k+1:Nat):Int):=by rw [za (by unfold I64;omega)];omega
  refine ⟨c1,by simp [cU],?_⟩
  simp only [cU,↓vcPre,↓z0,↓reduceIte,vcPost,vcStd,Nat.reduceEqDiff,reduceCtorEq,Nat.reduceAdd,Nat.reduceLeDiff,Int.reduceLT,Int.reduceLE,↓u_setN]
  have hfl:∀ (l:List Int) (b:List Int),(l.foldl putL b).length≤b.length+l.length:=by
   intro l
   induction l with
   | nil=>intro b;simp
   | cons y r ih=>intro b;have h1:=ih (putL b y);have h2:=z1w b y;simp only [List.foldl_cons,List.length_cons];omega
  have hlen:=hfl (a.cms.take k) []
  simp only [List.length_take,List.length_nil] at hlen
  refine (s80 hts ((a.cms.take k).foldl putL []) a.cms[k] (by omega) ho).Q ?_
  rintro r s' ⟨h1,h2⟩
  simp only [↓vcPre,↓z0,↓reduceIte,vcPost,vcStd,Nat.reduceEqDiff,reduceCtorEq,Nat.reduceAdd,Nat.reduceLeDiff,Int.reduceLT,Int.reduceLE,↓u_setN]
  rw [ek]
  refine NextQ.to (k+1,r,s') rfl (Store.sub_refl _) (by simp only;omega) ⟨by simp only;omega,h1,?_⟩
  simp only
  rw [wu putL [] c1]
  exact h2
 ·have hkl:a.cms.take k=a.cms:=List.take_of_length_le (by omega)
  rw [hkl,uu] at ho
  have hv:v.isTup=false∧v.cells=[v]:=by
   rcases ho with ⟨_,rfl⟩ | ⟨g,rfl,_,_⟩ <;> exact ⟨rfl,rfl⟩
  simp only [hv.1,hv.2,hsi,hsj,hij,hji,At.cV,hz,↓vcPre,↓z0,↓reduceIte,vcPost,vcStd,Nat.reduceEqDiff,reduceCtorEq,Nat.reduceAdd,Nat.reduceLeDiff,Int.reduceLT,Int.reduceLE,↓u_setN]
  rw [zz _ _ (by simp [hz]),y7]
  have hp2:=((hp.mono hts).setId (o' := .box (a.cW pv v)) hsi (fun M e=>by cases e))
  have hp3:=hp2.setId (id:=j) (o' := .box (a.cW pv v)) (by rw [Store.set_ne _ _ hji];exact hsj) (fun M e=>by cases e)
  refine hr v _ (z6 (z6 (Store.sub_trans hs hts) hi0) hj0) ?_ hp3 (Store.set_same _ _ _)
  rcases ho.weak hs with h | ⟨g,h1,h2,h3⟩
  ·exact .inl h
  ·refine .inr ⟨g,h1,h2,?_⟩
   have hgi:¬ g=i:=fun e=>by rw [e,hsi] at h3;cases h3
   have hgj:¬ g=j:=fun e=>by rw [e,hsj] at h3;cases h3
   rw [Store.set_ne _ _ hgj,Store.set_ne _ _ hgi];exact h3
theorem zd4 (a:At) (ha:a.ok) {σ:Store} {Q:AV→Store→Prop} (hQ:∀ v pv s',Store.sub σ s'→Own 1 σ ((canonC a.cms).map cU) v s'→Own 2 σ (a.path.map Seg.c) pv s'→Weak (.agg ((canonA a).cW pv v)) s' Q):ACalls Tryz.prog 41 [.agg a.c] σ Q:=by
 refine zf Tsg.F41 (by simp [Tsg.F41,Fn.mkX]) ?_
 simp only [Tsg.F41,Fn.mkX,Tsg.b41]
 simp only [At.c,↓vcPre,↓z0,↓reduceIte,vcPost,vcStd,Nat.reduceEqDiff,reduceCtorEq,Nat.reduceAdd,Nat.reduceLeDiff,Int.reduceLT,Int.reduceLE,↓u_setN]
 refine AllocQ.i0 fun i hi => ?_
 simp only [At.c,↓vcPre,↓z0,↓reduceIte,vcPost,vcStd,Nat.reduceEqDiff,reduceCtorEq,Nat.reduceAdd,Nat.reduceLeDiff,Int.reduceLT,Int.reduceLE,↓u_setN]
 refine AllocQ.i1 fun j hj1 hj2 hj => ?_
 simp only [hj1,hj2,↓vcPre,↓z0,↓reduceIte,vcPost,vcStd,Nat.reduceEqDiff,reduceCtorEq,Nat.reduceAdd,Nat.reduceLeDiff,Int.reduceLT,Int.reduceLE,↓u_setN]
 refine (zf3 _ ha.1 ha.2.1 _).Q ?_
 rintro pv T ⟨hT,hpv⟩
 have Ti:=hT i _ (by rw [Store.set_ne _ _ hj2,Store.set_same])
 have Tj:=hT j _ (Store.set_same _ _ _)
 have sT:Store.sub σ T:=Store.sub_trans (zk hi hj hj1) hT
 have hpo:=hpv.weak (zk (o := .box a.c) (p := .box zCells) hi hj hj1)
 have hpc:=hpv.cell
 simp only [hj1,hj2,Ti,Tj,hpc.1,hpc.2,↓vcPre,↓z0,↓reduceIte,vcPost,vcStd,Nat.reduceEqDiff,reduceCtorEq,Nat.reduceAdd,Nat.reduceLeDiff,Int.reduceLT,Int.reduceLE,↓u_setN]
 have key:∀ (E:Env) (t:Store) (z:List AV) (x:Nat→Env→Store→Prop) (n:Env→Store→Prop) (m p:Int),z.length=9→t i=some (.box (({ a with med:=m,prf:=p }:At).cV pv))→t j=some (.box z)→Store.sub σ t→Own 2 σ (a.path.map Seg.c) pv t→(if a.hm then a.med else 0)=m→(if a.hp then a.prf else 0)=p →
  bwp Tryz.prog Tsg.t41_3 ((1,.ptr i 0)::(2,.ptr j 0)::E) t n (fun e s => @EndQ e s ⟨Tsg.F41.slots,Q⟩) x:=by
  intro E t z x n m p hz h1 h2 h3 h4 rfl rfl
  refine z26 E { a with med:=(if a.hm then a.med else 0),prf:=(if a.hp then a.prf else 0) } ha hz h1 h4 h2 hj2 hi hj h3 ?_
  intro v s' q1 q2 q4 q3
  unfold EndQ
  refine ⟨_,?_,hQ v pv s' q1 q2 q4⟩
  show Env.res [(2,AV.ptr j 0)] s' [RS.c 2 9 true]=_
  have e9:∀ x:At,(x.cW pv v).length=9:=fun _=>rfl
  have t9:∀ x:At,List.take 9 (x.cW pv v)=x.cW pv v:=fun _=>rfl
  simp only [q3,e9,t9,Nat.le_refl,↓vcPre,↓z0,↓reduceIte,vcPost,vcStd,Nat.reduceEqDiff,reduceCtorEq,Nat.reduceAdd,Nat.reduceLeDiff,Int.reduceLT,Int.reduceLE,↓u_setN]
  rfl
 have o1:∀ c:List AV,Own 2 σ (a.path.map Seg.c) pv (T.set i (.box c)):=fun c=>hpo.setId Ti (fun M e=>by cases e)
 have o2:∀ c d:List AV,Own 2 σ (a.path.map Seg.c) pv ((T.set i (.box c)).set i (.box d)):=fun c d=>(o1 c).setId (Store.set_same _ _ _) (fun M e=>by cases e)
 have o3:∀ c d f:List AV,Own 2 σ (a.path.map Seg.c) pv (((T.set i (.box c)).set i (.box d)).set i (.box f)):=fun c d f=>(o2 c d).setId (Store.set_same _ _ _) (fun M e=>by cases e)
 cases hm:a.hm <;> cases hp:a.hp
 all_goals simp only [↓vcPre,↓z0,↓reduceIte,vcPost,vcStd,Nat.reduceEqDiff,reduceCtorEq,Nat.reduceAdd,Nat.reduceLeDiff,Int.reduceLT,Int.reduceLE,↓u_setN]
 all_goals
  refine key _ _ zCells _ _ (if a.hm then a.med else 0) (if a.hp then a.prf else 0) rfl ?_ ?_ ?_ ?_ rfl rfl
  ·rw [Store.set_same];simp [At.cV,hm,hp]
  ·simp only [Store.set_ne _ _ hj1];exact Tj
  ·first
    | exact z6 (z6 (z6 sT hi) hi) hi
    | exact z6 (z6 sT hi) hi
    | exact z6 sT hi
  ·first
    | exact o3 _ _ _
    | exact o2 _ _
    | exact o1 _
theorem zf2 (a:At) (ha:a.ok) (σ:Store):ACalls Tryz.prog 41 [.agg a.c] σ (fun r s=>∃ v,r = .agg ((canonA a).cV v)∧Store.sub σ s∧Own 2 σ (a.path.map Seg.c) v s) :=
 zd4 a ha fun w v s' hs ho hv=>by
  have hvf:v.flat=true:=by rcases hv with ⟨_,e⟩ | ⟨_,e,_⟩ <;> rw [e] <;> rfl
  have hfl:∀ c ∈ (canonA a).cV v,c.flat=true:=by
   intro c hc
   simp only [At.cV,List.mem_cons,List.not_mem_nil,or_false] at hc
   rcases hc with rfl | rfl | rfl | rfl | rfl | rfl | rfl | rfl | rfl <;> first | rfl | exact hvf
  have e8:((canonA a).cW v w).set 8 (.sl 1 ((canonC a.cms).map cU))=(canonA a).cV v:=rfl
  rcases ho with ⟨h0,rfl⟩ | ⟨g,rfl,hg,hh⟩
  ·have h0':canonC a.cms=[]:=by simpa using h0
   rw [h0'] at e8
   refine Weak.agg (WeakL.nil 8 1 rfl (WeakL.pure ?_))
   exact ⟨by rw [show ((canonA a).cW v AV.nils).set 8 (.sl 1 [])=(canonA a).cV v from by rw [←e8];rfl];exact hfl,v,by rw [←e8];rfl,hs,hv⟩
  ·refine Weak.agg (WeakL.freeze 8 rfl hh (by simp) (WeakL.pure ?_))
   have ht:((List.map cU (canonC a.cms)).drop 0).take ((canonC a.cms).map cU).length=(canonC a.cms).map cU:=by rw [List.drop_zero,List.take_length]
   rw [ht]
   refine ⟨hfl,v,rfl,sub_del hs hg,?_⟩
   rcases hv with h | ⟨g2,k1,k2,k3⟩
   ·exact .inl h
   ·exact .inr ⟨g2,k1,k2,by rw [Store.del_ne _ (fun e=>by rw [e,hh] at k3;cases k3)];exact k3⟩
end Go.Am
namespace Go.Am
open Go.Proofs Go.Sort
theorem z5n (E:List (Nat×AV)) (a:At) (ha:a.ok) {σ s:Store} {i j:Nat} (hij:¬ i=j) (hi0:σ i=none) (hj0:σ j=none) {v z:AV} {w:List AV} (hs:Store.sub σ s) (hi:s i=some (boxV a z)) (hj:s j=some (.box w)) (hw:w.length=9) (P:List Seg) (hP:P.length≤1000000∧∀ s ∈ P,s.ok) (ho:Own 2 σ (P.map Seg.c) v s) {n r:Env→Store→Prop} {x:Nat→Env→Store→Prop}
 (hr:∀ s' v,Store.sub σ s'→Own 2 σ (P.map Seg.c) v s'→s' j=some (.box ((canonA { a with path:=P,cms:=a.cms.take 5 }).cV v))→r [(2,.ptr j 0)] s'):bwp Tryz.prog Ts15.t12_60 ((1,.ptr i 0)::(2,.ptr j 0)::(3,v)::E) s n r x:=by
 simp only [Ts15.t12_60]
 have hji:¬ j=i:=fun e=>hij e.symm
 rw [boxV] at hi
 simp only [↓vcPre,↓z0,↓reduceIte,vcPost,vcStd,Nat.reduceEqDiff,reduceCtorEq,Nat.reduceAdd,Nat.reduceLeDiff,Int.reduceLT,Int.reduceLE,↓u_setN]
 refine WkQ.of (WeakE.own (τ:=σ) 3 rfl ho hs fun s1 k1 k2 k3=>WeakE.pure ?_)
 have hvn:∀ (q:Nat) (o:Obj) (c:List AV),s q=some o→o = .box c→∀ m,v ≠ .os q 2 0 m:=fun q o c h1 h2 m e=>by
  rcases ho with ⟨_,e2⟩ | ⟨g,e2,_,h3⟩
  ·rw [e2] at e;cases e
  ·rw [e2] at e;cases e;rw [h1,h2] at h3;cases h3
 have hi1:=k3 _ _ hi (hvn _ _ _ hi rfl)
 have hj1:=k3 _ _ hj (hvn _ _ _ hj rfl)
 simp only [hi1,↓vcPre,↓z0,↓reduceIte,vcPost,vcStd,Nat.reduceEqDiff,reduceCtorEq,Nat.reduceAdd,Nat.reduceLeDiff,Int.reduceLT,Int.reduceLE,↓u_setN]
 have hi2:(s1.set i (.box ({ a with path:=P }:At).c)) i=some (.box ({ a with path:=P }:At).c):=Store.set_same _ _ _
 have hj2:(s1.set i (.box ({ a with path:=P }:At).c)) j=some (.box w):=by rw [Store.set_ne _ _ hji];exact hj1
 have hs2:Store.sub σ (s1.set i (.box ({ a with path:=P }:At).c)):=z6 k1 hi0
 have fin:∀ (c:List Int) (T:Store),c=a.cms.take 5→Store.sub σ T→T j=some (.box w)→ACalls Tryz.prog 41 [.agg [.int .i64 a.org,.sl 2 (P.map Seg.c),.int .u32 a.nxt,.bool a.hm,.int .u32 a.med,.bool a.hp,.int .u32 a.prf,.bool a.atm,.sl 1 (c.map cU)]] T
  (fun r s'=>∃ v',r = .agg ((canonA { a with path:=P,cms:=a.cms.take 5 }).cV v')∧Store.sub σ s'∧s' j=some (.box w)∧Own 2 σ (P.map Seg.c) v' s'):=fun c T hc hT hTj=>by
  subst hc
  exact (zf2 { a with path:=P,cms:=a.cms.take 5 } ⟨hP.1,hP.2,by simp;omega⟩ T).mono fun r s' ⟨v',h1,h2,h3⟩=>⟨v',h1,Store.sub_trans hT h2,h2 _ _ hTj,h3.weak hT⟩
 have ends:∀ s' v',Store.sub σ s'→Own 2 σ (P.map Seg.c) v' s'→s' j=some (.box w)→wit (splice 0 ((canonA { a with path:=P,cms:=a.cms.take 5 }).cV v') w) (fun cs=>r [(2,.ptr j 0)] (s'.set j (.box cs))):=fun s' v' h1 h3 h2=>by
  rw [zz _ _ (by rw [hw];rfl),y7]
  exact hr _ v' (z6 h1 hj0) (h3.setId h2 (fun M e=>by cases e)) (Store.set_same _ _ _)
 have e9:∀ (x:At) (v:AV),(x.cV v).length=9:=fun _ _=>rfl
 have e5:List.drop (Int.toNat 0) (List.take ((some (5:Int)).getD (a.cms.length:Int)).toNat (a.cms.map cU))=(a.cms.take 5).map cU:=by rw [List.map_take];rfl
 rw [e5]
 refine ⟨fun g1=>⟨⟨by simp,by simp;omega⟩,?_⟩,fun g1 => ?_⟩
 ·refine (fin _ _ rfl (z6 hs2 hi0) (by rw [Store.set_ne _ _ hji];exact hj2)).Q ?_
  rintro r' s' ⟨v',rfl,q1,q2,q3⟩
  simp only [e9,q2,↓vcPre,↓z0,↓reduceIte,vcPost,vcStd,Nat.reduceEqDiff,reduceCtorEq,Nat.reduceAdd,Nat.reduceLeDiff,Int.reduceLT,Int.reduceLE,↓u_setN]
  exact ends s' v' q1 q3 q2
 ·refine (fin _ _ (List.take_of_length_le (by omega)).symm hs2 hj2).Q ?_
  rintro r' s' ⟨v',rfl,q1,q2,q3⟩
  simp only [e9,q2,↓vcPre,↓z0,↓reduceIte,vcPost,vcStd,Nat.reduceEqDiff,reduceCtorEq,Nat.reduceAdd,Nat.reduceLeDiff,Int.reduceLT,Int.reduceLE,↓u_setN]
  exact ends s' v' q1 q3 q2
theorem z5m (a:At) (ha:a.ok) {σ s:Store} {i j:Nat} (hij:¬ i=j) (hi0:σ i=none) (hj0:σ j=none) {w:List AV} (hs:Store.sub σ s) (hi:s i=some (boxV a (.sl 2 (a.path.map Seg.c)))) (hj:s j=some (.box w)) (hw:w.length=9) {n r:Env→Store→Prop} {x:Nat→Env→Store→Prop}
 (hr:∀ s' v,Store.sub σ s'→Own 2 σ ((rightP a.path).map Seg.c) v s'→s' j=some (.box ((canonA { a with path:=rightP a.path,cms:=a.cms.take 5 }).cV v))→r [(2,.ptr j 0)] s'):bwp Tryz.prog Ts15.t12_3 [(1,.ptr i 0),(2,.ptr j 0)] s n r x:=by
 simp only [Ts15.t12_3]
 simp only [↓vcPre,↓z0,↓reduceIte,vcPost,vcStd,Nat.reduceEqDiff,reduceCtorEq,Nat.reduceAdd,Nat.reduceLeDiff,Int.reduceLT,Int.reduceLE,↓u_setN]
 refine LoopQ.inv (S:=Nat×AV×Store) (fun q=>[(1,.ptr i 0),(2,.ptr j 0),(3,q.2.1),(4,.int .i64 (q.1:Int))]) (fun q=>q.2.2) (fun q=>q.1≤a.path.length∧q.1≤4∧Store.sub s q.2.2∧Own 2 s ((((a.path.take q.1).map cutS).filter okS).map Seg.c) q.2.1 q.2.2) (fun q=>5 - q.1) (0,.nils,s) rfl (Store.sub_refl _) ⟨by simp only;omega,by simp only;omega,Store.sub_refl _,.nil⟩ ?_
 rintro ⟨k,v,s1⟩ ⟨hk,hk4,hs1,ho1⟩
 simp only at hk hk4 hs1 ho1
 have hi1:=hs1 _ _ hi
 rw [boxV] at hi1
 simp only [hi1,↓vcPre,↓z0,↓reduceIte,vcPost,vcStd,Nat.reduceEqDiff,reduceCtorEq,Nat.reduceAdd,Nat.reduceLeDiff,Int.reduceLT,Int.reduceLE,↓u_setN]
 refine ⟨fun c1=>⟨fun c2 => ?_,fun c2 => ?_⟩,fun c1 => ?_⟩
 ·have ek:IntKind.i64.wrap ((k:Int)+1)=((k+1:Nat):Int):=by rw [za (by unfold I64;omega)];omega
  refine ⟨c1,by simp [Seg.c],?_⟩
  refine AllocQ.i0 fun b hb => ?_
  simp only [Seg.c,Store.set_set,↓vcPre,↓z0,↓reduceIte,vcPost,vcStd,Nat.reduceEqDiff,reduceCtorEq,Nat.reduceAdd,Nat.reduceLeDiff,Int.reduceLT,Int.reduceLE,↓u_setN]
  have hl5:List.drop (Int.toNat 0) (List.take ((some (5:Int)).getD (a.path[k].ls.length:Int)).toNat (a.path[k].ls.map cU))=(a.path[k].ls.take 5).map cU:=by rw [List.map_take];rfl
  rw [hl5,ek]
  simp only [Option.getD_some]
  have filt:((a.path.take (k+1)).map cutS).filter okS=((a.path.take k).map cutS).filter okS++(if okS (cutS a.path[k]) then [cutS a.path[k]] else []):=by
   rw [List.take_add_one,List.getElem?_eq_getElem c1,Option.toList_some,List.map_append,List.filter_append]
   congr 1
   simp only [List.map_cons,List.map_nil,List.filter_cons,List.filter_nil]
  have hpl:(((a.path.take k).map cutS).filter okS).length≤4:=by
   have:=List.length_filter_le okS ((a.path.take k).map cutS)
   simp at this ⊢;omega
  have yes:∀ (c:List AV),c=(cutS a.path[k]).c→okS (cutS a.path[k])=true→∀ T d,T=s1.set b (.box c)→T d=none→appwp 2 32 v (.os d 2 0 1) (T.set d (.arr 2 [c])) (fun v' s' => @NextQ [(1,.ptr i 0),(2,.ptr j 0),(3,v'),(4,.int .i64 ((k+1:Nat):Int))] s' ⟨fun e' σ'=>∃ s',e'=[(1,.ptr i 0),(2,.ptr j 0),(3,(s':Nat×AV×Store).2.1),(4,.int .i64 (s'.1:Int))]∧Store.sub s'.2.2 σ'∧5 - s'.1<5 - k∧(s'.1≤a.path.length∧s'.1≤4∧Store.sub s s'.2.2∧Own 2 s ((((a.path.take s'.1).map cutS).filter okS).map Seg.c) s'.2.1 s'.2.2)⟩):=by
   intro c hc hok T d hT hd
   subst hT
   have hsb:=Store.sub_trans (Store.sub_set s1 b (.box c) hb) (Store.sub_set _ d (.arr 2 [c]) hd)
   refine Own.app (τ:=s) (Store.sub_trans hs1 hsb) (ho1.mono hsb) (zj (Store.set_same _ _ _) rfl) (by rw [List.length_map];omega) fun v' s' k1 k2 => ?_
   refine NextQ.to (st:=fun q:Nat×AV×Store=>q.2.2) (env:=fun q=>[(1,.ptr i 0),(2,.ptr j 0),(3,q.2.1),(4,.int .i64 (q.1:Int))]) (m:=fun q=>5 - q.1) (s:=(k,v,s1)) (k+1,v',s') rfl (Store.sub_refl _) (by simp only;omega) ⟨by simp only;omega,by simp only;omega,k1,?_⟩
   simp only
   rw [filt,hok,List.map_append,if_pos rfl]
   rw [hc] at k2
   exact k2
  have no:∀ T,Store.sub s1 T→okS (cutS a.path[k])=false → @NextQ [(1,.ptr i 0),(2,.ptr j 0),(3,v),(4,.int .i64 ((k+1:Nat):Int))] T ⟨fun e' σ'=>∃ s',e'=[(1,.ptr i 0),(2,.ptr j 0),(3,(s':Nat×AV×Store).2.1),(4,.int .i64 (s'.1:Int))]∧Store.sub s'.2.2 σ'∧5 - s'.1<5 - k∧(s'.1≤a.path.length∧s'.1≤4∧Store.sub s s'.2.2∧Own 2 s ((((a.path.take s'.1).map cutS).filter okS).map Seg.c) s'.2.1 s'.2.2)⟩:=by
   intro T hT hok
   refine NextQ.to (st:=fun q:Nat×AV×Store=>q.2.2) (env:=fun q=>[(1,.ptr i 0),(2,.ptr j 0),(3,q.2.1),(4,.int .i64 (q.1:Int))]) (m:=fun q=>5 - q.1) (s:=(k,v,s1)) (k+1,v,T) rfl (Store.sub_refl _) (by simp only;omega) ⟨by simp only;omega,by simp only;omega,Store.sub_trans hs1 hT,?_⟩
   simp only
   rw [filt,hok]
   simpa using ho1.mono hT
  have okl:okS (cutS a.path[k])=decide (0<(a.path[k].ls.take 5).length∧(a.path[k].kind=1∨a.path[k].kind=2)):=rfl
  have hlt:(a.path[k].ls.take 5).length=min 5 a.path[k].ls.length:=List.length_take
  refine ⟨fun g1=>⟨by omega,?_⟩,fun g1 => ?_⟩
  ·rw [List.length_map]
   refine ⟨fun g2=>⟨fun g3=>⟨fun g4 => ?_,fun g4 => ?_⟩,fun g3 => ?_⟩,fun g2 => ?_⟩
   ·refine AllocQ.i0 fun d hd => ?_
    simp only [↓vcPre,↓z0,↓reduceIte,vcPost,vcStd,Nat.reduceEqDiff,reduceCtorEq,Nat.reduceAdd,Nat.reduceLeDiff,Int.reduceLT,Int.reduceLE,↓u_setN]
    rw [ek]
    exact yes _ rfl (by rw [okl,decide_eq_true_eq];omega) _ d rfl hd
   ·exact no _ (Store.sub_set _ _ _ hb) (by rw [okl,decide_eq_false_iff_not];omega)
   ·refine AllocQ.i0 fun d hd => ?_
    simp only [↓vcPre,↓z0,↓reduceIte,vcPost,vcStd,Nat.reduceEqDiff,reduceCtorEq,Nat.reduceAdd,Nat.reduceLeDiff,Int.reduceLT,Int.reduceLE,↓u_setN]
    rw [ek]
    exact yes _ rfl (by rw [okl,decide_eq_true_eq];omega) _ d rfl hd
   ·exact no _ (Store.sub_set _ _ _ hb) (by rw [okl,decide_eq_false_iff_not];omega)
  ·have hcc:[AV.int .i64 a.path[k].kind,.sl 1 (a.path[k].ls.map cU)]=(cutS a.path[k]).c:=by
    have:a.path[k].ls.take 5=a.path[k].ls:=List.take_of_length_le (by omega)
    simp [cutS,Seg.c,this]
   refine ⟨fun g2=>⟨fun g3=>⟨fun g4 => ?_,fun g4 => ?_⟩,fun g3 => ?_⟩,fun g2 => ?_⟩
   ·refine AllocQ.i0 fun d hd => ?_
    simp only [↓vcPre,↓z0,↓reduceIte,vcPost,vcStd,Nat.reduceEqDiff,reduceCtorEq,Nat.reduceAdd,Nat.reduceLeDiff,Int.reduceLT,Int.reduceLE,↓u_setN]
    rw [ek]
    exact yes _ hcc (by rw [okl,decide_eq_true_eq];omega) _ d rfl hd
   ·exact no _ (Store.sub_set _ _ _ hb) (by rw [okl,decide_eq_false_iff_not];omega)
   ·refine AllocQ.i0 fun d hd => ?_
    simp only [↓vcPre,↓z0,↓reduceIte,vcPost,vcStd,Nat.reduceEqDiff,reduceCtorEq,Nat.reduceAdd,Nat.reduceLeDiff,Int.reduceLT,Int.reduceLE,↓u_setN]
    rw [ek]
    exact yes _ hcc (by rw [okl,decide_eq_true_eq];omega) _ d rfl hd
   ·exact no _ (Store.sub_set _ _ _ hb) (by rw [okl,decide_eq_false_iff_not];omega)
 all_goals
  have e:a.path.take k=a.path.take 4:=by
   by_cases h:k=4
   ·rw [h]
   ·rw [List.take_of_length_le (by omega),List.take_of_length_le (by omega)]
  rw [e] at ho1
  exact z5n _ a ha hij hi0 hj0 (Store.sub_trans hs hs1) hi1 (hs1 _ _ hj) hw (rightP a.path) (z49 _ ha.2.1) (ho1.weak hs) hr
set_option maxHeartbeats 400000 in
theorem zf0 (a:At) (ha:a.ok) (h64:I64 a.org) (σ:Store):ACalls Tryz.prog 12 [.agg a.c] σ (fun r s=>∃ v,r = .agg ((rightK a).cV v)∧Store.sub σ s∧Own 2 σ ((rightK a).path.map Seg.c) v s):=by
 refine zf Ts15.F12 (by simp [Ts15.F12,Fn.mkW]) ?_
 simp only [Ts15.F12,Fn.mkW,Ts15.b12]
 simp only [At.c,↓vcPre,↓z0,↓reduceIte,vcPost,vcStd,Nat.reduceEqDiff,reduceCtorEq,Nat.reduceAdd,Nat.reduceLeDiff,Int.reduceLT,Int.reduceLE,↓u_setN]
 refine AllocQ.i0 fun i hi => ?_
 simp only [At.c,↓vcPre,↓z0,↓reduceIte,vcPost,vcStd,Nat.reduceEqDiff,reduceCtorEq,Nat.reduceAdd,Nat.reduceLeDiff,Int.reduceLT,Int.reduceLE,↓u_setN]
 refine AllocQ.i1 fun j hj1 hj2 hj => ?_
 simp only [hj1,hj2,↓vcPre,↓z0,↓reduceIte,vcPost,vcStd,Nat.reduceEqDiff,reduceCtorEq,Nat.reduceAdd,Nat.reduceLeDiff,Int.reduceLT,Int.reduceLE,↓u_setN]
 refine (c16 a.org 0 2 h64 (by omega) (by omega) (by omega)).Q ?_
 rw [show (0:Int)+a.org % (2 - 0+1)=a.org % 3 by omega]
 simp only [hj1,hj2,↓vcPre,↓z0,↓reduceIte,vcPost,vcStd,Nat.reduceEqDiff,reduceCtorEq,Nat.reduceAdd,Nat.reduceLeDiff,Int.reduceLT,Int.reduceLE,↓u_setN]
 refine (c32 a.nxt).Q ?_
 have key:∀ (m:Int) (t:Store) (z:List AV) (xx:Nat→Env→Store→Prop) (nn:Env→Store→Prop),z.length=9→m=(if goodN a.nxt then a.nxt else nextF a.nxt)→t i=some (boxV { a with org:=a.org % 3,nxt:=m } (.sl 2 (a.path.map Seg.c)))→t j=some (.box z)→Store.sub σ t →
  bwp Tryz.prog Ts15.t12_3 [(1,.ptr i 0),(2,.ptr j 0)] t nn (fun e s => @EndQ e s ⟨Ts15.F12.slots,fun r s=>∃ v,r = .agg ((rightK a).cV v)∧Store.sub σ s∧Own 2 σ ((rightK a).path.map Seg.c) v s⟩) xx:=by
  intro m t z xx nn hz hm h1 h2 h3
  subst hm
  refine z5m { a with org:=a.org % 3,nxt:=if goodN a.nxt then a.nxt else nextF a.nxt } ⟨ha.1,ha.2.1,ha.2.2⟩ hj2 hi hj h3 h1 h2 hz fun s' v k1 k3 k2 => ?_
  refine EndQ.to s' (.agg ((rightK a).cV v)) ?_ (Store.sub_refl _) ⟨v,rfl,k1,k3⟩
  show Env.res [(2,AV.ptr j 0)] s' [RS.c 2 9 true]=_
  have e9:∀ x:At,(x.cV v).length=9:=fun _=>rfl
  have t9:∀ x:At,List.take 9 (x.cV v)=x.cV v:=fun _=>rfl
  simp only [k2,e9,t9,Nat.le_refl,↓vcPre,↓z0,↓reduceIte,vcPost,vcStd,Nat.reduceEqDiff,reduceCtorEq,Nat.reduceAdd,Nat.reduceLeDiff,Int.reduceLT,Int.reduceLE,↓u_setN]
  rfl
 have hs2:=zk (o:=Obj.box a.c) (p := .box zCells) hi hj hj1
 by_cases g:goodN a.nxt
 ·rw [decide_eq_true g]
  simp only [hj1,hj2,↓vcPre,↓z0,↓reduceIte,vcPost,vcStd,Nat.reduceEqDiff,reduceCtorEq,Nat.reduceAdd,Nat.reduceLeDiff,Int.reduceLT,Int.reduceLE,↓u_setN]
  refine key a.nxt _ zCells _ _ rfl (by rw [if_pos g]) (by rw [Store.set_same];rfl) (by rw [Store.set_ne _ _ hj1,Store.set_same];rfl) (z6 hs2 hi)
 ·rw [decide_eq_false g]
  simp only [hj1,hj2,↓vcPre,↓z0,↓reduceIte,vcPost,vcStd,Nat.reduceEqDiff,reduceCtorEq,Nat.reduceAdd,Nat.reduceLeDiff,Int.reduceLT,Int.reduceLE,↓u_setN]
  refine (c40 a.nxt).Q ?_
  simp only [hj1,hj2,↓vcPre,↓z0,↓reduceIte,vcPost,vcStd,Nat.reduceEqDiff,reduceCtorEq,Nat.reduceAdd,Nat.reduceLeDiff,Int.reduceLT,Int.reduceLE,↓u_setN]
  refine key (nextF a.nxt) _ zCells _ _ rfl (by rw [if_neg g]) (by rw [Store.set_same];rfl) (by rw [Store.set_ne _ _ hj1,Store.set_ne _ _ hj1,Store.set_same];rfl) (z6 (z6 hs2 hi) hi)
end Go.Am
namespace Go.Am
open Go.Proofs Go.Sort
def x8 (a:At):Nat:=if a.cms=[] then 0 else 3+4*a.cms.length
def x6 (a:At):Nat:=if a.atm then 3 else 0
def x5 (a:At):Nat:=if a.hp then 7 else 0
def x4 (a:At):Nat:=if a.hm then 7 else 0
theorem z4z (a:At) (h:a.cms.length≤60):(encA a).length=4+((if 255<(encPath a.path).length then 4 else 3)+(encPath a.path).length)+7+x4 a+x5 a+x6 a+x8 a:=by
 unfold encA x4 x5 x6 x8
 simp only [List.length_append,x7,List.length_cons,List.length_nil,xp]
 have h8:(if a.cms=[] then ([]:List Int) else oneA 192 8 (encW a.cms)).length=if a.cms=[] then 0 else 3+4*a.cms.length:=by
  by_cases e:a.cms=[]
  ·simp [e]
  ·rw [if_neg e,if_neg e,x7,zu,if_neg (by omega)]
 rw [h8]
 cases a.hm <;> cases a.hp <;> cases a.atm <;> simp [x7,xp]
section
variable {a:At} {T σ:Store} {p:Nat} {n rr:Env→Store→Prop} {xx:Nat→Env→Store→Prop}
theorem z2c (Tp:T p=some (.box a.c)) (hs:Store.sub σ T) (hr:atRight a) (hn:okNums a) (hl:(encA a).length≤20000) (ha:a.ok) (E:List (Nat×AV))
 (hres:∀ t',Store.sub σ t'→rr [(4,.bool true)] t'):bwp Tryz.prog Ts15.t7_83 ((2,.ptr p 0)::(8,.int .i64 ((encA a).length:Int))::E) T n rr xx:=by
 simp only [Ts15.t7_83,za9,zaa]
 have e9:∀ x:At,x.c.length=9:=fun _=>rfl
 have t9:∀ x:At,List.take 9 x.c=x.c:=fun _=>rfl
 have spZ:∀ x:At,splice 0 x.c zC=some x.c:=fun _=>rfl
 have szn:∀ x y z:AV,splice 0 [x,y,z] zN=some [x,y,z]:=fun _ _ _=>rfl
 simp only [Tp,e9,t9,Nat.le_refl,↓vcPre,↓z0,↓reduceIte,vcPost,vcStd,Nat.reduceEqDiff,reduceCtorEq,Nat.reduceAdd,Nat.reduceLeDiff,Int.reduceLT,Int.reduceLE,↓u_setN]
 have ae:=c27 a ha
 rw [if_pos hr,if_pos hr] at ae
 refine ae.Q ?_
 simp only [↓vcPre,↓z0,↓reduceIte,vcPost,vcStd,Nat.reduceEqDiff,reduceCtorEq,Nat.reduceAdd,Nat.reduceLeDiff,Int.reduceLT,Int.reduceLE,↓u_setN]
 have D1:=s28 (σ:=T) (B:=encA a) Rd.sl (by omega) (z82 a) true
 rw [z81 hr hn true] at D1
 refine D1.Q ?_
 rintro r1 w ⟨rfl,rfl⟩
 simp only [outD,List.map_nil]
 simp only [↓vcPre,↓z0,↓reduceIte,vcPost,vcStd,Nat.reduceEqDiff,reduceCtorEq,Nat.reduceAdd,Nat.reduceLeDiff,Int.reduceLT,Int.reduceLE,↓u_setN]
 refine AllocQ.i0 fun p9 hp9 => ?_
 simp only [↓vcPre,↓z0,↓reduceIte,vcPost,vcStd,Nat.reduceEqDiff,reduceCtorEq,Nat.reduceAdd,Nat.reduceLeDiff,Int.reduceLT,Int.reduceLE,↓u_setN]
 refine AllocQ.i1 fun p11 h119 h911 hp11 => ?_
 simp only [h119,h911,e9,spZ,szn,↓vcPre,↓z0,↓reduceIte,vcPost,vcStd,Nat.reduceEqDiff,reduceCtorEq,Nat.reduceAdd,Nat.reduceLeDiff,Int.reduceLT,Int.reduceLE,↓u_setN]
 have sU:Store.sub w ((((w.set p9 (.box zC)).set p11 (.box zN)).set p9 (.box (outA true a).c)).set p11 (.box [.int .i64 0,.int .i64 0,.sl 1 []])):=z6 (z6 (zk hp9 hp11 h119) hp9) hp11
 have U9:((((w.set p9 (.box zC)).set p11 (.box zN)).set p9 (.box (outA true a).c)).set p11 (.box [.int .i64 0,.int .i64 0,.sl 1 []])) p9=some (.box a.c):=by rw [Store.set_ne _ _ h911];exact Store.set_same _ _ _
 have Up:=sU _ _ Tp
 generalize ((((w.set p9 (.box zC)).set p11 (.box zN)).set p9 (.box (outA true a).c)).set p11 (.box [.int .i64 0,.int .i64 0,.sl 1 []]))=U at sU U9 Up ⊢
 simp only [Up,U9,e9,t9,Nat.le_refl,↓vcPre,↓z0,↓reduceIte,vcPost,vcStd,Nat.reduceEqDiff,reduceCtorEq,Nat.reduceAdd,Nat.reduceLeDiff,Int.reduceLT,Int.reduceLE,↓u_setN]
 have sm:=zax a a ha ha
 rw [decide_eq_true rfl] at sm
 refine sm.Q ?_
 simp only [↓vcPre,↓z0,↓reduceIte,vcPost,vcStd,Nat.reduceEqDiff,reduceCtorEq,Nat.reduceAdd,Nat.reduceLeDiff,Int.reduceLT,Int.reduceLE,↓u_setN]
 refine c17.Q ?_
 simp only [↓vcPre,↓z0,↓reduceIte,vcPost,vcStd,Nat.reduceEqDiff,reduceCtorEq,Nat.reduceAdd,Nat.reduceLeDiff,Int.reduceLT,Int.reduceLE,↓u_setN]
 exact hres _ (Store.sub_trans hs sU)
def hyps (a:At):Prop:=atRight a∧okNums a∧(encA a).length≤20000∧a.ok
theorem z2b (Tp:T p=some (.box a.c)) (hs:Store.sub σ T) (h:hyps a) (w:Nat) (hw:w+x8 a=(encA a).length) (E:List (Nat×AV)) (hres:∀ t',Store.sub σ t'→rr [(4,.bool true)] t') :
 bwp Tryz.prog Ts15.t7_71 ((2,.ptr p 0)::(8,.int .i64 (w:Int))::E) T n rr xx:=by
 simp only [Ts15.t7_71]
 obtain ⟨hr,hn,hl,ha⟩:=h
 have hc:=ha.2.2
 have l8:List.take 1 (List.drop 8 a.c)=[.sl 1 (a.cms.map cU)]:=rfl
 have e9:∀ x:At,x.c.length=9:=fun _=>rfl
 have hx:x8 a≤20000:=by omega
 simp only [Tp,l8,e9,↓vcPre,↓z0,↓reduceIte,vcPost,vcStd,Nat.reduceEqDiff,reduceCtorEq,Nat.reduceAdd,Nat.reduceLeDiff,Int.reduceLT,Int.reduceLE,↓u_setN]
 refine ⟨fun g => ?_,fun g => ?_⟩
 ·have hne:a.cms≠[]:=fun e=>by rw [e] at g;simp at g
  have h8:x8 a=3+4*a.cms.length:=by unfold x8;rw [if_neg hne]
  have w1:IntKind.i64.wrap ((w:Int)+3)=(w:Int)+3:=za (by unfold I64;omega)
  have w2:IntKind.i64.wrap (4*(a.cms.length:Int))=4*(a.cms.length:Int):=za (by unfold I64;omega)
  have w3:IntKind.i64.wrap ((w:Int)+3+4*(a.cms.length:Int))=((encA a).length:Int):=by rw [za (by unfold I64;omega)];omega
  simp only [Tp,l8,e9,w1,w2,w3,↓vcPre,↓z0,↓reduceIte,vcPost,vcStd,Nat.reduceEqDiff,reduceCtorEq,Nat.reduceAdd,Nat.reduceLeDiff,Int.reduceLT,Int.reduceLE,↓u_setN]
  exact z2c Tp hs hr hn hl ha _ hres
 ·have h8:x8 a=0:=by
   have:a.cms=[]:=by cases h:a.cms with | nil=>rfl | cons x l=>rw [h] at g;simp at g <;> omega
   unfold x8;rw [if_pos this]
  have:(w:Int)=((encA a).length:Int):=by omega
  rw [this]
  exact z2c Tp hs hr hn hl ha _ hres
theorem z2a (Tp:T p=some (.box a.c)) (hs:Store.sub σ T) (h:hyps a) (w:Nat) (hw:w+x6 a+x8 a=(encA a).length) (E:List (Nat×AV)) (hres:∀ t',Store.sub σ t'→rr [(4,.bool true)] t') :
 bwp Tryz.prog Ts15.t7_67 ((2,.ptr p 0)::(8,.int .i64 (w:Int))::E) T n rr xx:=by
 simp only [Ts15.t7_67]
 have hl:=h.2.2.1
 have l8:List.take 1 (List.drop 7 a.c)=[.bool a.atm]:=rfl
 have e9:∀ x:At,x.c.length=9:=fun _=>rfl
 have w1:IntKind.i64.wrap ((w:Int)+3)=((w+3:Nat):Int):=by rw [za (by unfold I64;omega)];omega
 simp only [Tp,l8,e9,w1,↓vcPre,↓z0,↓reduceIte,vcPost,vcStd,Nat.reduceEqDiff,reduceCtorEq,Nat.reduceAdd,Nat.reduceLeDiff,Int.reduceLT,Int.reduceLE,↓u_setN]
 unfold x6 at hw
 cases g:a.atm
 ·rw [g] at hw
  simp only [↓vcPre,↓z0,↓reduceIte,vcPost,vcStd,Nat.reduceEqDiff,reduceCtorEq,Nat.reduceAdd,Nat.reduceLeDiff,Int.reduceLT,Int.reduceLE,↓u_setN]
  exact z2b Tp hs h w (by simpa using hw) _ hres
 ·rw [g] at hw
  simp only [w1,↓vcPre,↓z0,↓reduceIte,vcPost,vcStd,Nat.reduceEqDiff,reduceCtorEq,Nat.reduceAdd,Nat.reduceLeDiff,Int.reduceLT,Int.reduceLE,↓u_setN]
  exact z2b Tp hs h (w+3) (by simpa using hw) _ hres
theorem z29 (Tp:T p=some (.box a.c)) (hs:Store.sub σ T) (h:hyps a) (w:Nat) (hw:w+x5 a+x6 a+x8 a=(encA a).length) (E:List (Nat×AV)) (hres:∀ t',Store.sub σ t'→rr [(4,.bool true)] t') :
 bwp Tryz.prog Ts15.t7_63 ((2,.ptr p 0)::(8,.int .i64 (w:Int))::E) T n rr xx:=by
 simp only [Ts15.t7_63]
 have hl:=h.2.2.1
 have l8:List.take 1 (List.drop 5 a.c)=[.bool a.hp]:=rfl
 have e9:∀ x:At,x.c.length=9:=fun _=>rfl
 have w1:IntKind.i64.wrap ((w:Int)+7)=((w+7:Nat):Int):=by rw [za (by unfold I64;omega)];omega
 simp only [Tp,l8,e9,w1,↓vcPre,↓z0,↓reduceIte,vcPost,vcStd,Nat.reduceEqDiff,reduceCtorEq,Nat.reduceAdd,Nat.reduceLeDiff,Int.reduceLT,Int.reduceLE,↓u_setN]
 unfold x5 at hw
 cases g:a.hp
 ·rw [g] at hw
  simp only [↓vcPre,↓z0,↓reduceIte,vcPost,vcStd,Nat.reduceEqDiff,reduceCtorEq,Nat.reduceAdd,Nat.reduceLeDiff,Int.reduceLT,Int.reduceLE,↓u_setN]
  exact z2a Tp hs h w (by simpa using hw) _ hres
 ·rw [g] at hw
  simp only [w1,↓vcPre,↓z0,↓reduceIte,vcPost,vcStd,Nat.reduceEqDiff,reduceCtorEq,Nat.reduceAdd,Nat.reduceLeDiff,Int.reduceLT,Int.reduceLE,↓u_setN]
  exact z2a Tp hs h (w+7) (by simpa using hw) _ hres
theorem z28 (Tp:T p=some (.box a.c)) (hs:Store.sub σ T) (h:hyps a) (w:Nat) (hw:w+x4 a+x5 a+x6 a+x8 a=(encA a).length) (E:List (Nat×AV)) (hres:∀ t',Store.sub σ t'→rr [(4,.bool true)] t') :
 bwp Tryz.prog Ts15.t7_59 ((2,.ptr p 0)::(8,.int .i64 (w:Int))::E) T n rr xx:=by
 simp only [Ts15.t7_59]
 have hl:=h.2.2.1
 have l8:List.take 1 (List.drop 3 a.c)=[.bool a.hm]:=rfl
 have e9:∀ x:At,x.c.length=9:=fun _=>rfl
 have w1:IntKind.i64.wrap ((w:Int)+7)=((w+7:Nat):Int):=by rw [za (by unfold I64;omega)];omega
 simp only [Tp,l8,e9,w1,↓vcPre,↓z0,↓reduceIte,vcPost,vcStd,Nat.reduceEqDiff,reduceCtorEq,Nat.reduceAdd,Nat.reduceLeDiff,Int.reduceLT,Int.reduceLE,↓u_setN]
 unfold x4 at hw
 cases g:a.hm
 ·rw [g] at hw
  simp only [↓vcPre,↓z0,↓reduceIte,vcPost,vcStd,Nat.reduceEqDiff,reduceCtorEq,Nat.reduceAdd,Nat.reduceLeDiff,Int.reduceLT,Int.reduceLE,↓u_setN]
  exact z29 Tp hs h w (by simpa using hw) _ hres
 ·rw [g] at hw
  simp only [w1,↓vcPre,↓z0,↓reduceIte,vcPost,vcStd,Nat.reduceEqDiff,reduceCtorEq,Nat.reduceAdd,Nat.reduceLeDiff,Int.reduceLT,Int.reduceLE,↓u_setN]
  exact z29 Tp hs h (w+7) (by simpa using hw) _ hres
theorem z27 (h:hyps a) (h60:a.cms.length≤60) (m:Nat) (hm:m=(encPath a.path).length) (E:List (Nat×AV)) (hw:WeakE ((2,.ptr p 0)::(5,.int .i64 (m:Int))::E) T (fun e' T'=>e'=((2,.ptr p 0)::(5,.int .i64 (m:Int))::E)∧T' p=some (.box a.c)∧Store.sub σ T'))
 (hres:∀ t',Store.sub σ t'→rr [(4,.bool true)] t'):bwp Tryz.prog Ts15.t7_52 ((2,.ptr p 0)::(5,.int .i64 (m:Int))::E) T n rr xx:=by
 simp only [Ts15.t7_52]
 have hl:=h.2.2.1
 have hz:=z4z a h60
 rw [←hm] at hz
 have hm2:m≤20000:=by split at hz <;> omega
 have w1:IntKind.i64.wrap (7+(m:Int))=7+(m:Int):=za (by unfold I64;omega)
 have w2:IntKind.i64.wrap (7+(m:Int)+7)=((14+m:Nat):Int):=by rw [za (by unfold I64;omega)];omega
 have w3:IntKind.i64.wrap (((14+m:Nat):Int)+1)=((15+m:Nat):Int):=by rw [za (by unfold I64;omega)];omega
 simp only [↓vcPre,↓z0,↓reduceIte,vcPost,vcStd,Nat.reduceEqDiff,reduceCtorEq,Nat.reduceAdd,Nat.reduceLeDiff,Int.reduceLT,Int.reduceLE,↓u_setN]
 refine WkQ.of (hw.mono fun e' T' hh => ?_)
 obtain ⟨rfl,Tp,hs⟩:=hh
 simp only [w1,w2,↓vcPre,↓z0,↓reduceIte,vcPost,vcStd,Nat.reduceEqDiff,reduceCtorEq,Nat.reduceAdd,Nat.reduceLeDiff,Int.reduceLT,Int.reduceLE,↓u_setN]
 simp only [Ts15.t7_55]
 simp only [↓vcPre,↓z0,↓reduceIte,vcPost,vcStd,Nat.reduceEqDiff,reduceCtorEq,Nat.reduceAdd,Nat.reduceLeDiff,Int.reduceLT,Int.reduceLE,↓u_setN]
 refine ⟨fun g => ?_,fun g => ?_⟩
 ·simp only [w3,↓vcPre,↓z0,↓reduceIte,vcPost,vcStd,Nat.reduceEqDiff,reduceCtorEq,Nat.reduceAdd,Nat.reduceLeDiff,Int.reduceLT,Int.reduceLE,↓u_setN]
  rw [if_pos (by omega)] at hz
  exact z28 Tp hs h (15+m) (by omega) _ hres
 ·rw [if_neg (by omega)] at hz
  exact z28 Tp hs h (14+m) (by omega) _ hres
end
theorem z55 {a:At} (na:okNums a):let r:=rightK (shortA a);∀ k:Nat,k≤255→hyps { r with path:=r.path++(if k=0 then [] else [⟨1,List.replicate k 0⟩]) }:=by
 intro r k hk
 obtain ⟨hr,hrn⟩:=z2o na
 obtain ⟨hre,h1,h2,h3⟩:=z5d a
 have hry:=z48 (shortA a)
 change atRight r at hr
 change okNums r at hrn
 change r.path.length≤4 at h1
 change ∀ s ∈ r.path,s.ls.length≤5 at h2
 change r.cms.length≤5 at h3
 obtain ⟨q1,q2,q3,q4,q5,q6,q7⟩:=hr
 have hp:pathRight (r.path++(if k=0 then [] else [⟨1,List.replicate k 0⟩])):=by
  refine ⟨fun s hs => ?_,?_⟩
  ·rcases List.mem_append.1 hs with hs | hs
   ·exact q2.1 s hs
   ·split at hs
    ·simp at hs
    ·rename_i h0
     simp only [List.mem_singleton] at hs
     subst hs
     exact ⟨.inl rfl,by simp;omega,by simp;omega⟩
  ·rw [List.length_append];split <;> simp <;> omega
 refine ⟨⟨q1,hp,q3,q4,q5,q6,q7⟩,⟨hrn.1,hrn.2.1,hrn.2.2.1,hrn.2.2.2.1,fun s hs => ?_⟩,?_,?_⟩
 ·rcases List.mem_append.1 hs with hs | hs
  ·exact hrn.2.2.2.2 s hs
  ·split at hs
   ·simp at hs
   ·simp only [List.mem_singleton] at hs
    subst hs
    intro y hy
    have:=List.eq_of_mem_replicate hy
    omega
 ·exact z30 ⟨q1,hp,q3,q4,q5,q6,q7⟩
 ·refine ⟨?_,fun s hs => ?_,by show r.cms.length≤_;omega⟩
  ·have:=hp.2;show (r.path++_).length≤_;omega
  ·have:=(hp.1 s hs).2.2;show s.ls.length≤_;omega
theorem ux (l:List Seg) (k:Nat) (h:k<l.length):(encPath (l.take (k+1))).length=(encPath (l.take k)).length+2+4*l[k].ls.length:=by
 rw [ub _ _ h,List.length_append]
 simp only [encSeg,List.length_append,List.length_cons,List.length_nil,zu];omega
set_option maxHeartbeats 1000000 in
theorem z6y (a:At) (ha:I64 a.org) (na:okNums a) (long:Int) (hlong:I64 long):Pur Tryz.prog 7 [.agg a.c,.int .i64 long] (.bool true):=by
 refine zl Ts15.F7 (by simp [Ts15.F7,Fn.mkW]) fun σ => ?_
 simp only [Ts15.F7,Fn.mkW,Ts15.b7]
 have e9:∀ x:At,x.c.length=9:=fun _=>rfl
 have t9:∀ x:At,List.take 9 x.c=x.c:=fun _=>rfl
 have spA:∀ (x y:At) (v:AV),splice 0 (x.cV v) y.c=some (x.cV v):=fun _ _ _=>rfl
 have g1:∀ (x:At) (v:AV),List.take 1 (List.drop 1 (x.cV v))=[v]:=fun _ _=>rfl
 have e9v:∀ (x:At) (v:AV),(x.cV v).length=9:=fun _ _=>rfl
 have hk0:=z55 na
 obtain ⟨hre,hl1,hl2,hl3⟩:=z5d a
 simp only at hk0
 simp only [↓vcPre,↓z0,↓reduceIte,vcPost,vcStd,Nat.reduceEqDiff,reduceCtorEq,Nat.reduceAdd,Nat.reduceLeDiff,Int.reduceLT,Int.reduceLE,↓u_setN]
 refine AllocQ.i0 fun p hp => ?_
 simp only [e9,t9,Nat.le_refl,↓vcPre,↓z0,↓reduceIte,vcPost,vcStd,Nat.reduceEqDiff,reduceCtorEq,Nat.reduceAdd,Nat.reduceLeDiff,Int.reduceLT,Int.reduceLE,↓u_setN]
 refine (c13 a).Q ?_
 have s1:=Store.sub_set σ p (.box a.c) hp
 have Tp:(σ.set p (.box a.c)) p=some (.box a.c):=Store.set_same _ _ _
 generalize σ.set p (.box a.c)=T at s1 Tp ⊢
 simp only [↓vcPre,↓z0,↓reduceIte,vcPost,vcStd,Nat.reduceEqDiff,reduceCtorEq,Nat.reduceAdd,Nat.reduceLeDiff,Int.reduceLT,Int.reduceLE,↓u_setN]
 refine (zf0 _ (z4a a).ok ha T).Q ?_
 rintro r0 U ⟨v,rfl,hU,hv⟩
 generalize rightK (shortA a)=r at hk0 hre hl1 hl2 hl3 hv ⊢
 simp only [hU _ _ Tp,spA,e9,e9v,↓vcPre,↓z0,↓reduceIte,vcPost,vcStd,Nat.reduceEqDiff,reduceCtorEq,Nat.reduceAdd,Nat.reduceLeDiff,Int.reduceLT,Int.reduceLE,↓u_setN]
 have hvW:Own 2 σ (r.path.map Seg.c) v (U.set p (.box (r.cV v))):=(hv.weak s1).setId (hU _ _ Tp) (fun M e=>by cases e)
 have sW:Store.sub σ (U.set p (.box (r.cV v))):=z6 (Store.sub_trans s1 hU) hp
 have Wp:(U.set p (.box (r.cV v))) p=some (.box (r.cV v)):=Store.set_same _ _ _
 generalize U.set p (.box (r.cV v))=W at hvW sW Wp ⊢
 have hrv:=Rd.own hvW
 have lv:pv .len [v]=some (.int .i64 (r.path.length:Int)):=by rw [hrv.2];simp
 have hvc:(v = .nils∧r.path=[])∨∃ g,v = .os g 2 0 r.path.length∧σ g=none∧W g=some (.arr 2 (r.path.map Seg.c)):=by
  rcases hvW with ⟨h1,h2⟩ | ⟨g,h1,h2,h3⟩
  ·exact .inl ⟨h2,List.map_eq_nil_iff.1 h1⟩
  ·exact .inr ⟨g,by rw [h1,List.length_map],h2,h3⟩
 have hsum:∀ j,j≤r.path.length→(encPath (r.path.take j)).length≤30*j:=by
  intro j
  induction j with
  | zero=>intro _;simp [encPath]
  | succ j ih =>
    intro hj
    have:=ih (by omega)
    rw [ux _ _ (by omega)]
    have h5:=hl2 _ (List.getElem_mem (show j<r.path.length by omega))
    omega
 refine LoopQ.inv (S:=Nat) (fun j=>[(1,.int .i64 long),(2,.ptr p 0),(5,.int .i64 ((encPath (r.path.take j)).length:Int)),(6,.int .i64 (j:Int))]) (fun _=>W) (fun j=>j≤r.path.length) (fun j=>r.path.length+1 - j) 0 rfl (Store.sub_refl _) (by omega) ?_
 rintro j hj
 have hj30:=hsum j hj
 simp only [Wp,g1,e9v,lv,↓vcPre,↓z0,↓reduceIte,vcPost,vcStd,Nat.reduceEqDiff,reduceCtorEq,Nat.reduceAdd,Nat.reduceLeDiff,Int.reduceLT,Int.reduceLE,↓u_setN]
 refine ⟨fun c1 => ?_,fun c1 => ?_⟩
 ·have ej:IntKind.i64.wrap ((j:Int)+1)=((j+1:Nat):Int):=by rw [za (by unfold I64;omega)];omega
  rcases hvc with ⟨_,h2⟩ | ⟨g,rfl,hg,hh⟩
  ·rw [h2] at c1;simp at c1
  ·have h5:=hl2 _ (List.getElem_mem c1)
   have es:=ux r.path j c1
   simp only [Wp,g1,e9v,hh,z3j,↓vcPre,↓z0,↓reduceIte,vcPost,vcStd,Nat.reduceEqDiff,reduceCtorEq,Nat.reduceAdd,Nat.reduceLeDiff,Int.reduceLT,Int.reduceLE,↓u_setN]
   refine ⟨c1,by omega,by simp [Seg.c],?_⟩
   have w1:IntKind.i64.wrap (((encPath (r.path.take j)).length:Int)+2)=((encPath (r.path.take j)).length:Int)+2:=za (by unfold I64;omega)
   have w2:IntKind.i64.wrap (4*((r.path[j]'c1).ls.length:Int))=4*((r.path[j]'c1).ls.length:Int):=za (by unfold I64;omega)
   have w3:IntKind.i64.wrap (((encPath (r.path.take j)).length:Int)+2+4*((r.path[j]'c1).ls.length:Int))=((encPath (r.path.take (j+1))).length:Int):=by rw [za (by unfold I64;omega)];omega
   simp only [Nat.zero_add]
   simp only [Seg.c,w1,w2,w3,ej,↓vcPre,↓z0,↓reduceIte,vcPost,vcStd,Nat.reduceEqDiff,reduceCtorEq,Nat.reduceAdd,Nat.reduceLeDiff,Int.reduceLT,Int.reduceLE,↓u_setN]
   exact NextQ.to (j+1) rfl (Store.sub_refl _) (by omega) (by omega)
 ·have:j=r.path.length:=by omega
  subst this
  rw [List.take_length] at hj30 ⊢
  obtain ⟨k,hk,hk2⟩:∃ k:Nat,(0:Int)+long % ((255:Int) - 0+1)=k∧k≤255:=by
   have h1:=Int.emod_nonneg long (b:=(255:Int) - 0+1) (by omega)
   have h2:=Int.emod_lt_of_pos long (b:=(255:Int) - 0+1) (by omega)
   exact ⟨(long % ((255:Int) - 0+1)).toNat,by omega,by omega⟩
  have hwk:=c16 long 0 255 hlong (by omega) (by omega) (by omega)
  rw [hk] at hwk
  have hy:=hk0 k hk2
  refine hwk.Q ?_
  simp only [Wp,g1,e9v,↓vcPre,↓z0,↓reduceIte,vcPost,vcStd,Nat.reduceEqDiff,reduceCtorEq,Nat.reduceAdd,Nat.reduceLeDiff,Int.reduceLT,Int.reduceLE,↓u_setN]
  refine ⟨fun h0 => ?_,fun h0 => ?_⟩
  ·refine ⟨⟨by omega,by omega⟩,AllocQ.i0 fun m hm => ?_⟩
   simp only [↓vcPre,↓z0,↓reduceIte,vcPost,vcStd,Nat.reduceEqDiff,reduceCtorEq,Nat.reduceAdd,Nat.reduceLeDiff,Int.reduceLT,Int.reduceLE,↓u_setN]
   refine AllocQ.i1 fun d hdm hmd hd => ?_
   simp only [hdm,hmd,↓vcPre,↓z0,↓reduceIte,vcPost,vcStd,Nat.reduceEqDiff,reduceCtorEq,Nat.reduceAdd,Nat.reduceLeDiff,Int.reduceLT,Int.reduceLE,↓u_setN]
   have hk0':k≠0:=by omega
   rw [if_neg hk0'] at hy
   have hpm:¬ p=m:=fun e=>by subst e;rw [Wp] at hm;cases hm
   have hpd:¬ p=d:=fun e=>by subst e;rw [Wp] at hd;cases hd
   have s2:=zk (o := .arr 1 (List.replicate k [.int .u32 0])) (p := .arr 2 [[.int .i64 1,.os m 1 0 k]]) hm hd hdm
   have w1:IntKind.i64.wrap (((encPath r.path).length:Int)+2)=((encPath r.path).length:Int)+2:=za (by unfold I64;omega)
   have w2:IntKind.i64.wrap (4*(k:Int))=4*(k:Int):=za (by unfold I64;omega)
   have hpl:(encPath (r.path++[⟨1,List.replicate k 0⟩])).length=(encPath r.path).length+2+4*k:=by
    unfold encPath
    rw [List.flatMap_append,List.length_append]
    simp only [List.flatMap_cons,List.flatMap_nil,List.append_nil,encSeg,List.length_append,List.length_cons,List.length_nil,zu,List.length_replicate];omega
   have w3:IntKind.i64.wrap (((encPath r.path).length:Int)+2+4*(k:Int))=((encPath (r.path++[⟨1,List.replicate k 0⟩])).length:Int):=by rw [za (by unfold I64;omega),hpl];omega
   rw [w1,w2,w3]
   have hsl:slc ((W.set m (.arr 1 (List.replicate k [.int .u32 0]))).set d (.arr 2 [[.int .i64 1,.os m 1 0 k]])) 2 (.os d 2 0 1)=some [[.int .i64 1,.os m 1 0 k]]:=zj (Store.set_same _ _ _) rfl
   refine Own.appK (bytes:=32) (ys:=[[.int .i64 1,.os m 1 0 k]]) (Store.sub_trans sW s2) (hvW.mono s2) hsl (by rw [List.length_map,List.length_singleton];omega) fun v' s' hs' ho' hk' => ?_
   have q1:=hk' _ _ (s2 _ _ Wp) (fun M e=>by cases e)
   have q2:s' m=some (.arr 1 (List.replicate k [.int .u32 0])):=hk' m _ (by rw [Store.set_ne _ _ hmd];exact Store.set_same _ _ _) (fun M e=>by cases e)
   have spv:∀ w:AV,splice 1 [w] (r.cV v)=some (r.cV w):=fun _=>rfl
   simp only [ho'.cell.1,ho'.cell.2,q1,spv,↓vcPre,↓z0,↓reduceIte,vcPost,vcStd,Nat.reduceEqDiff,reduceCtorEq,Nat.reduceAdd,Nat.reduceLeDiff,Int.reduceLT,Int.reduceLE,↓u_setN]
   obtain ⟨g,rfl,hg,hh⟩:∃ g,v' = .os g 2 0 (r.path.length+1)∧σ g=none∧s' g=some (.arr 2 (r.path.map Seg.c++[[.int .i64 1,.os m 1 0 k]])):=by
    rcases ho' with ⟨h1,_⟩ | ⟨g,h1,h2,h3⟩
    ·simp at h1
    ·exact ⟨g,by rw [h1];simp,h2,h3⟩
   have hgp:¬ g=p:=fun e=>by subst e;rw [q1] at hh;cases hh
   have hmp:¬ m=p:=fun e=>hpm e.symm
   have hgm:¬ g=m:=fun e=>by subst e;rw [q2] at hh;cases hh
   have hpg:¬ p=g:=fun e=>hgp e.symm
   have Zp:(s'.set p (.box (r.cV (.os g 2 0 (r.path.length+1))))) p=some (.box (r.cV (.os g 2 0 (r.path.length+1)))):=Store.set_same _ _ _
   have Zg:(s'.set p (.box (r.cV (.os g 2 0 (r.path.length+1))))) g=some (.arr 2 (r.path.map Seg.c++[[.int .i64 1,.os m 1 0 k]])):=by rw [Store.set_ne _ _ hgp];exact hh
   have Zm:(s'.set p (.box (r.cV (.os g 2 0 (r.path.length+1))))) m=some (.arr 1 (List.replicate k [.int .u32 0])):=by rw [Store.set_ne _ _ hmp];exact q2
   have sZ:Store.sub σ (s'.set p (.box (r.cV (.os g 2 0 (r.path.length+1))))):=z6 hs' hp
   generalize s'.set p (.box (r.cV (.os g 2 0 (r.path.length+1))))=Z at Zp Zg Zm sZ ⊢
   have hσm:σ m=none:=zi sW hm
   have ees:(r.path.map Seg.c++[[AV.int .i64 1,.os m 1 0 k]]).set r.path.length (([AV.int .i64 1,.os m 1 0 k]:List AV).set 1 (.sl 1 (((List.replicate k [AV.int .u32 0]).drop 0).take k)))=(r.path++[(⟨1,List.replicate k 0⟩:Seg)]).map Seg.c:=by
    have h0:List.take k (List.replicate k [AV.int .u32 0])=(List.replicate k (0:Int)).map cU:=by rw [List.take_of_length_le (by simp),List.map_replicate];rfl
    rw [List.drop_zero,h0]
    simp [Seg.c,List.map_replicate]
   refine z27 (a:={ r with path:=r.path++[⟨1,List.replicate k 0⟩] }) (σ:=σ) hy (by show r.cms.length≤60;omega) _ rfl _ (WeakE.frzArr g r.path.length 1 (c:=[.int .i64 1,.os m 1 0 k]) Zg (by simp) rfl Zm hgm (by simp) ?_) fun t' ht'=>⟨rfl,ht'⟩
   rw [ees]
   refine WeakE.frzBox p 1 (by rw [Store.set_ne _ _ hpg,Store.del_ne _ hpm];exact Zp) rfl (Store.set_same _ _ _) (by simp) (WeakE.pure ⟨rfl,?_,?_⟩)
   ·rw [Store.set_same]
    have h1:List.take (r.path.length+1) (((r.path++[(⟨1,List.replicate k 0⟩:Seg)]).map Seg.c).drop 0)=(r.path++[(⟨1,List.replicate k 0⟩:Seg)]).map Seg.c:=by rw [List.drop_zero,List.take_of_length_le (by simp)]
    rw [h1];rfl
   ·exact z6 (sub_del (z6 (sub_del sZ hσm) hg) hg) hp
  ·have hk':k=0:=by omega
   subst hk'
   simp only [if_pos,List.append_nil] at hy
   refine z27 (a:=r) (σ:=σ) hy (by omega) (encPath r.path).length rfl _ (WeakE.ownBox (τ:=σ) p 1 Wp rfl hvW sW hp fun s' q1 q2 _=>WeakE.pure ⟨rfl,q2,q1⟩) fun t' ht'=>⟨rfl,ht'⟩
end Go.Am
namespace Go.Am
open Go.Proofs
theorem zea (a:At) (ha:I64 a.org∧okNums a) (long:Int) (h1:I64 long):Pur Tryz.prog 7 [.agg a.c,.int .i64 long] (.bool true):=z6y a ha.1 ha.2 long h1
end Go.Am
