/- A part of the proof: a logic for calls over plain values, and the functions that the law reaches, each walked once. -/
import Derived.Test.YtcjiacchgddnpaaGreatPQ14
set_option linter.unusedVariables false
set_option linter.unusedSimpArgs false
set_option linter.unusedSectionVars false
namespace Go.Am
open Go.Proofs Go.Sort
def RZ (σ:Store) (v:AV) (B:List Int) (τ:Store) (id:Nat) (R:List Int) (lack:Bool) (s:Store):Prop:=∃ (at_:Nat),τ id=none∧Store.sub τ s∧Store.sub σ τ∧s id=some (.box [v,.int .i64 (at_:Int),.bool lack])∧Rd 1 σ (B.map cB) v∧at_≤B.length∧R=B.drop at_∧B.length≤1000000000∧U8s B
section
variable {σ τ s:Store} {v:AV} {B:List Int} {id:Nat} {R:List Int} {lack:Bool}
theorem RZ.base (h:RZ σ v B τ id R lack s):RZ σ v B (s.del id) id R lack s∧Store.sub τ (s.del id):=by
 obtain ⟨at_,h1,h2,h3,h4,h5⟩:=h
 exact ⟨⟨at_,by simp,y6 _ _,Store.sub_trans h3 (sub_del h2 h1),h4,h5⟩,sub_del h2 h1⟩
theorem RZ.rf (h:RZ σ v B τ id R lack s):∃ at_,RF τ id v B at_ lack s∧R=B.drop at_∧B.length≤1000000000∧U8s B∧Store.sub σ τ∧Rd 1 σ (B.map cB) v:=by
 obtain ⟨at_,h1,h2,h3,h4,h5,h6,h7,h8,h9⟩:=h
 exact ⟨at_,⟨h1,h2,h4,h5.mono h3,h6⟩,h7,h8,h9,h3,h5⟩
theorem RZ.of {at_:Nat} (h:RF τ id v B at_ lack s) (h1:B.length≤1000000000) (h2:U8s B) (h3:Store.sub σ τ) (h4:Rd 1 σ (B.map cB) v):RZ σ v B τ id (B.drop at_) lack s:=⟨at_,h.1,h.2.1,h3,h.2.2.1,h4,h.2.2.2.2,rfl,h1,h2⟩
theorem z7r (h:RZ σ v B τ id R lack s):ACalls Tryz.prog 82 [.ptr id 0] s (fun r s'=>r = .int .i64 (numM 1 R lack).1∧RZ σ v B τ id (numM 1 R lack).2.1 (numM 1 R lack).2.2 s'):=by
 obtain ⟨at_,hf,rfl,h1,h2,h3,h4⟩:=h.rf
 refine (s82 hf h1 h2).mono fun r s' ⟨a,b⟩=>⟨a,?_⟩
 have:=RZ.of b h1 h2 h3 h4
 rw [←List.drop_drop,←w5] at this
 exact this
theorem ze4 (h:RZ σ v B τ id R lack s):ACalls Tryz.prog 83 [.ptr id 0] s (fun r s'=>r = .int .i64 (numM 2 R lack).1∧RZ σ v B τ id (numM 2 R lack).2.1 (numM 2 R lack).2.2 s'):=by
 obtain ⟨at_,hf,rfl,h1,h2,h3,h4⟩:=h.rf
 refine (s83 hf h1 h2).mono fun r s' ⟨a,b⟩=>⟨a,?_⟩
 have:=RZ.of b h1 h2 h3 h4
 rw [←List.drop_drop,←w5] at this
 exact this
theorem ze3 (h:RZ σ v B τ id R lack s) (n:Int) (hn:n≤1000000000000):ACalls Tryz.prog 84 [.ptr id 0,.int .i64 n] s (fun r s'=>r = .sl 1 ((rawM n R lack).1.map cB)∧RZ σ v B τ id (rawM n R lack).2.1 (rawM n R lack).2.2 s'):=by
 obtain ⟨at_,hf,rfl,h1,h2,h3,h4⟩:=h.rf
 refine (s84 hf h1 n hn).mono fun r s' ⟨a,b⟩=>⟨a,?_⟩
 have:=RZ.of b h1 h2 h3 h4
 rw [←List.drop_drop,←w5] at this
 exact this
theorem zcc (h:RZ σ v B τ id R lack s):ACalls Tryz.prog 81 [.ptr id 0] s (fun r s'=>s'=s∧r = .int .i64 (if lack then 0 else (R.length:Int))):=by
 obtain ⟨at_,hf,rfl,h1,h2,h3,h4⟩:=h.rf
 exact s81 hf h1
end
def flags (S:List Int):List AV:=(List.range 256).map fun k:Nat => .bool (decide ((k:Int) ∈ S))
theorem zy (S:List Int):(flags S).length=256:=by simp [flags]
theorem u5 (S:List Int) {k:Nat} (hk:k<256):(flags S)[k]'(by rw [zy];exact hk) = .bool (decide ((k:Int) ∈ S)):=by simp [flags]
theorem z18 (S:List Int) {k:Nat} (hk:k<256):List.take 1 (List.drop k (flags S))=[.bool (decide ((k:Int) ∈ S))]:=by
 rw [List.drop_eq_getElem_cons (by rw [zy];exact hk),u5 S hk];rfl
theorem z19 (S:List Int) {k:Nat} (hk:k<256):(flags S).set k (.bool true)=flags ((k:Int)::S):=by
 apply List.ext_getElem
 ·rw [List.length_set,zy,zy]
 ·intro i h1 h2
  rw [zy] at h2
  rw [List.getElem_set,u5 _ h2,u5 _ h2]
  by_cases e:k=i
  ·subst e;simp
  ·rw [if_neg e];congr 1;simp only [List.mem_cons,decide_eq_decide]
   constructor
   ·exact .inr
   ·rintro (h | h)
    ·omega
    ·exact h
theorem ud {x:AV}:∀ (k:Nat) (cs:List AV),k<cs.length→splice k [x] cs=some (cs.set k x)
 | 0,_::cs,_=>by cases cs <;> rfl
 | k+1,c::cs,h=>by
   simp only [splice,ud k cs (by simpa using h)];rfl
theorem z25 (S:List Int) {k:Nat} (hk:k<256):splice (0+k*1) [.bool true] (flags S)=some (flags ((k:Int)::S)):=by
 rw [←z19 S hk,show 0+k*1=k by omega]
 exact ud _ _ (by rw [zy];exact hk)
theorem z1o (S:List Int) {k:Nat} (hk:k<256):splice k [.bool true] (flags S)=some (flags ((k:Int)::S)):=by
 rw [←z19 S hk];exact ud _ _ (by rw [zy];exact hk)
theorem z17 {S S':List Int} (h:∀ x,x ∈ S↔x ∈ S'):flags S=flags S':=by
 unfold flags
 refine List.map_congr_left fun k _ => ?_
 simp only [h]
theorem AJ.weak {τ:Store} {id:Nat} {a:At} {fr fr':Prop} {s:Store} (h:AJ τ id a fr s) (hf:fr'→fr):AJ τ id a fr' s:=by
 obtain ⟨q1,q2,pv,cv,q3,q4,q5,q6⟩:=h
 exact ⟨q1,q2,pv,cv,q3,q4,q5,fun h=>q6 (hf h)⟩
theorem z58:fls=flags []:=by
 have:flags []=List.replicate 256 (.bool false):=by
  apply List.ext_getElem
  ·rw [zy,List.length_replicate]
  ·intro i h1 h2;rw [zy] at h1;rw [u5 _ h1,List.getElem_replicate];simp
 rw [this];rfl
theorem z43 {b:List Int} {c:Ch} (hu:U8s b) (h:chunk b=some c):0≤c.kind∧c.kind<256:=by
 unfold chunk at h
 split at h
 ·split at h
  ·split at h
   ·cases h
   ·cases h
    exact hu _ (by simp)
  ·split at h
   ·split at h
    ·cases h
    ·cases h
     exact hu _ (by simp)
   ·cases h
 ·cases h
theorem z7m {c:Ch} {a:At} {n:Nt} (h:valA c a = .error n):(n.1=11→n.2=[])∧(¬ n.1=11→n.2=c.all):=by
 unfold valA at h
 repeat' split at h
 all_goals first
  | (cases h;exact ⟨fun e=>by simp at e,fun _=>rfl⟩)
  | (cases h;exact ⟨fun _=>rfl,fun e=>absurd rfl e⟩)
  | cases h
set_option maxHeartbeats 1000000 in
theorem z5m {σ V:Store} {p4 p6 p7 p8 p9 pt:Nat} (inner:Bool) {v wv bo:AV} (c:Ch) (a:At) (ty:List Int) {fr:Prop} (h46:¬ p4=p6) (h6:¬ p6=p4) (k48:¬ p4=p8) (k68:¬ p6=p8) (t4:¬ p4=pt) (t6:¬ p6=pt) (t8:¬ p8=pt) (hσt:σ pt=none)
 (V4:V p4=some (.box zC)) (V6:V p6=some (.box zN)) (Vt:V pt=some (.box (flags ty))) (VA:AJ σ p8 a fr V) (h8:c.kind=8→fr) (hk0:0≤c.kind) (hk1:c.kind<256)
 (hv:c.val.length≤1000000) (hu:U8s c.val) (hal:c.all.length≤1000000) (hra:Rd 1 σ (c.all.map cB) wv) {n r:Env→Store→Prop} {xx:Nat→Env→Store→Prop}
 (hgo:∀ a' t,stepA c a = .ok a'→AJ σ p8 a' (fr∧c.kind≠8) t→t pt=some (.box (flags (c.kind::ty)))→(∀ q o,q≠p8→q≠pt→V q=some o→t q=some o) →
   (∀ E:Env,n ((0,v)::(1,.bool inner)::(4,.ptr p4 0)::(6,.ptr p6 0)::(7,.ptr p7 0)::(8,.ptr p8 0)::(9,.ptr p9 0)::(10,.ptr pt 0)::E) t)∧∀ E:Env,xx 1 ((0,v)::(1,.bool inner)::(4,.ptr p4 0)::(6,.ptr p6 0)::(7,.ptr p7 0)::(8,.ptr p8 0)::(9,.ptr p9 0)::(10,.ptr pt 0)::E) t)
 (hbad:∀ t nt,stepA c a = .error nt→Store.sub σ t→r [(4,.ptr p4 0),(5,.sl 1 []),(6,.ptr p6 0)] ((t.set p4 (.box zeroAt.c)).set p6 (.box [.int .i64 3,.int .i64 nt.1,.sl 1 (nt.2.map cB)]))) :
 bwp Tryz.prog Tsr.t42_75 [(0,v),(1,.bool inner),(4,.ptr p4 0),(6,.ptr p6 0),(7,.ptr p7 0),(8,.ptr p8 0),(9,.ptr p9 0),(10,.ptr pt 0),(12,.int .i64 c.fl),(13,.int .i64 c.kind),(14,.int .i64 (c.val.length:Int)),(15,.sl 1 (c.val.map cB)),(16,wv),(74,bo)] V n r xx:=by
 simp only [Tsr.t42_75]
 obtain ⟨K,hK,hK2⟩:∃ K:Nat,c.kind=(K:Int)∧K<256:=⟨c.kind.toNat,by omega,by omega⟩
 have fl256:=zy
 simp only [hK,Vt,↓vcPre,↓z0,↓reduceIte,vcPost,vcStd,Nat.reduceEqDiff,reduceCtorEq,Nat.reduceAdd,Nat.reduceLeDiff,Int.reduceLT,Int.reduceLE,↓u_setN]
 refine ⟨hK2,?_⟩
 rw [z25 ty hK2,yr]
 rw [←hK]
 have hVσ:=VA.2.1
 have hVt:Store.sub σ (V.set pt (.box (flags (c.kind::ty)))):=za VA.2.1 hσt
 have Wt:(V.set pt (.box (flags (c.kind::ty)))) pt=some (.box (flags (c.kind::ty))):=Store.set_same _ _ _
 have W4:(V.set pt (.box (flags (c.kind::ty)))) p4=some (.box zC):=by rw [Store.set_ne _ _ t4];exact V4
 have W6:(V.set pt (.box (flags (c.kind::ty)))) p6=some (.box zN):=by rw [Store.set_ne _ _ t6];exact V6
 have WA:AJ σ p8 a fr (V.set pt (.box (flags (c.kind::ty)))):=by
  obtain ⟨q1,q2,pv,cv,q3,q4,q5,q6⟩:=VA
  exact ⟨q1,hVt,pv,cv,by rw [Store.set_ne _ _ t8];exact q3,q4,q5.setId Vt (fun M e=>by cases e),q6⟩
 have Wk:∀ q o,q≠p8→q≠pt→V q=some o→(V.set pt (.box (flags (c.kind::ty)))) q=some o:=fun q o _ h2 h=>by rw [Store.set_ne _ _ h2];exact h
 generalize V.set pt (.box (flags (c.kind::ty)))=W at hVt Wt W4 W6 WA Wk ⊢
 have e1:andI c.fl 128=bitInt .and .i64 c.fl 128:=rfl
 have e2:andI c.fl 192=bitInt .and .i64 c.fl 192:=rfl
 have e3:andI c.fl 32=bitInt .and .i64 c.fl 32:=rfl
 have szl:splice 0 zeroAt.c zC=some zeroAt.c:=rfl
 have szn:∀ x y z:AV,splice 0 [x,y,z] zN=some [x,y,z]:=fun _ _ _=>rfl
 have z9:zeroAt.c.length=9:=rfl
 have nt:∀ (t:Store) (x:Int),Store.sub σ t→ACalls Tryz.prog 85 [.int .i64 x,wv] t (fun r s'=>s'=t∧r=outD (.error (x,c.all))):=fun t x h=>s85 (hra.mono h) (by omega) x
 refine (c86 c.kind).Q ?_
 by_cases hw:wantOf c.kind=0
 ·rw [hw]
  simp only [↓vcPre,↓z0,↓reduceIte,vcPost,vcStd,Nat.reduceEqDiff,reduceCtorEq,Nat.reduceAdd,Nat.reduceLeDiff,Int.reduceLT,Int.reduceLE,↓u_setN]
  have hst:stepA c a=if andI c.fl 128=0 then .error (2,c.all) else .ok a:=by unfold stepA;rw [if_pos hw]
  refine ⟨fun g => ?_,fun g => ?_⟩
  ·refine (nt W 2 hVt).Q ?_
   rintro r' t ⟨rfl,rfl⟩
   simp only [outD]
   simp only [W4,W6,h46,h6,z9,szl,szn,↓vcPre,↓z0,↓reduceIte,vcPost,vcStd,Nat.reduceEqDiff,reduceCtorEq,Nat.reduceAdd,Nat.reduceLeDiff,Int.reduceLT,Int.reduceLE,↓u_setN]
   exact hbad _ (2,c.all) (by rw [hst,if_pos (e1.trans g)]) hVt
  ·have hne:c.kind≠8:=fun e=>by rw [e] at hw;exact absurd hw (by decide)
   refine (hgo a W (by rw [hst,if_neg (by rw [e1];exact g)]) ?_ Wt Wk).2 _
   obtain ⟨q1,q2,pv,cv,q3,q4,q5,q6⟩:=WA
   exact ⟨q1,q2,pv,cv,q3,q4,q5,fun h=>q6 h.1⟩
 ·simp only [hw,↓vcPre,↓z0,↓reduceIte,vcPost,vcStd,Nat.reduceEqDiff,reduceCtorEq,Nat.reduceAdd,Nat.reduceLeDiff,Int.reduceLT,Int.reduceLE,↓u_setN]
  have rest:¬ (andI c.fl 192≠wantOf c.kind∨andI c.fl 32≠0∧c.kind≠8)→fitsOf c.kind c.val.length→∀ bo',bwp Tryz.prog Tsr.t42_116 [(0,v),(1,.bool inner),(4,.ptr p4 0),(6,.ptr p6 0),(7,.ptr p7 0),(8,.ptr p8 0),(9,.ptr p9 0),(10,.ptr pt 0),(13,.int .i64 c.kind),(15,.sl 1 (c.val.map cB)),(16,wv),(110,bo')] W n r xx:=by
   intro hb hf bo'
   simp only [Tsr.t42_116]
   have hst:stepA c a=valA c a:=by unfold stepA;rw [if_neg hw,if_neg hb,if_neg (not_not_intro hf)]
   simp only [↓vcPre,↓z0,↓reduceIte,vcPost,vcStd,Nat.reduceEqDiff,reduceCtorEq,Nat.reduceAdd,Nat.reduceLeDiff,Int.reduceLT,Int.reduceLE,↓u_setN]
   refine (s88 WA c hw hf hv hu h8).Q ?_
   rintro r' t ⟨hk,hτt,hpost⟩
   cases hva:valA c a with
   | ok a' =>
     rw [hva] at hpost
     obtain ⟨rfl,hA⟩:=hpost
     simp only [↓vcPre,↓z0,↓reduceIte,vcPost,vcStd,Nat.reduceEqDiff,reduceCtorEq,Nat.reduceAdd,Nat.reduceLeDiff,Int.reduceLT,Int.reduceLE,↓u_setN]
     have G:=hgo a' t (hst.trans hva) hA (hk _ _ (fun e=>t8 e.symm) Wt) (fun q o h1 h2 h3=>hk _ _ h1 (Wk q o h1 h2 h3))
     exact ⟨fun h=>absurd h (by decide),fun _=>G.1 _⟩
   | error nn =>
     rw [hva] at hpost
     obtain ⟨rfl,h0n⟩:=hpost
     obtain ⟨nx,nM⟩:=nn
     obtain ⟨g11,gall⟩:=z7m hva
     simp only at h0n g11 gall
     have u4:=hk _ _ k48 W4
     have u6:=hk _ _ k68 W6
     simp only [↓vcPre,↓z0,↓reduceIte,vcPost,vcStd,Nat.reduceEqDiff,reduceCtorEq,Nat.reduceAdd,Nat.reduceLeDiff,Int.reduceLT,Int.reduceLE,↓u_setN]
     refine ⟨fun g => ?_,fun g=>⟨fun _ => ?_,fun g0=>by omega⟩⟩
     ·refine (s85 (M:=[]) Rd.nils (by simp) 11).Q ?_
      rintro r' t' ⟨rfl,rfl⟩
      simp only [outD]
      simp only [u4,u6,h46,h6,z9,szl,szn,↓vcPre,↓z0,↓reduceIte,vcPost,vcStd,Nat.reduceEqDiff,reduceCtorEq,Nat.reduceAdd,Nat.reduceLeDiff,Int.reduceLT,Int.reduceLE,↓u_setN]
      have:=hbad t' (nx,nM) (hst.trans hva) hτt
      rw [g11 g,g] at this
      exact this
     ·refine (nt t nx hτt).Q ?_
      rintro r' t' ⟨rfl,rfl⟩
      simp only [outD]
      simp only [u4,u6,h46,h6,z9,szl,szn,↓vcPre,↓z0,↓reduceIte,vcPost,vcStd,Nat.reduceEqDiff,reduceCtorEq,Nat.reduceAdd,Nat.reduceLeDiff,Int.reduceLT,Int.reduceLE,↓u_setN]
      have:=hbad t' (nx,nM) (hst.trans hva) hτt
      rw [gall g] at this
      exact this
  have f4:(andI c.fl 192≠wantOf c.kind∨andI c.fl 32≠0∧c.kind≠8)→stepA c a = .error (4,c.all):=fun h=>by unfold stepA;rw [if_neg hw,if_pos h]
  refine ⟨fun c1=>⟨fun c2=>⟨fun c3 => ?_,fun c3 => ?_⟩,fun c2 => ?_⟩,fun c1 => ?_⟩
  ·refine (nt W 4 hVt).Q ?_
   rintro r' t ⟨rfl,rfl⟩
   simp only [outD]
   simp only [W4,W6,h46,h6,z9,szl,szn,↓vcPre,↓z0,↓reduceIte,vcPost,vcStd,Nat.reduceEqDiff,reduceCtorEq,Nat.reduceAdd,Nat.reduceLeDiff,Int.reduceLT,Int.reduceLE,↓u_setN]
   exact hbad _ (4,c.all) (f4 (by rw [e2,e3];omega)) hVt
  ·refine (c87 c.kind c.val.length hv).Q ?_
   have hb:¬ (andI c.fl 192≠wantOf c.kind∨andI c.fl 32≠0∧c.kind≠8):=by rw [e2,e3];omega
   by_cases hf:fitsOf c.kind c.val.length
   ·rw [decide_eq_true hf]
    simp only [↓vcPre,↓z0,↓reduceIte,vcPost,vcStd,Nat.reduceEqDiff,reduceCtorEq,Nat.reduceAdd,Nat.reduceLeDiff,Int.reduceLT,Int.reduceLE,↓u_setN]
    exact rest hb hf _
   ·have h5:stepA c a = .error (5,c.all):=by unfold stepA;rw [if_neg hw,if_neg hb,if_pos hf]
    rw [decide_eq_false hf]
    simp only [↓vcPre,↓z0,↓reduceIte,vcPost,vcStd,Nat.reduceEqDiff,reduceCtorEq,Nat.reduceAdd,Nat.reduceLeDiff,Int.reduceLT,Int.reduceLE,↓u_setN]
    refine (nt W 5 hVt).Q ?_
    rintro r' t ⟨rfl,rfl⟩
    simp only [outD]
    simp only [W4,W6,h46,h6,z9,szl,szn,↓vcPre,↓z0,↓reduceIte,vcPost,vcStd,Nat.reduceEqDiff,reduceCtorEq,Nat.reduceAdd,Nat.reduceLeDiff,Int.reduceLT,Int.reduceLE,↓u_setN]
    exact hbad _ (5,c.all) h5 hVt
  ·refine (c87 c.kind c.val.length hv).Q ?_
   have hb:¬ (andI c.fl 192≠wantOf c.kind∨andI c.fl 32≠0∧c.kind≠8):=by rw [e2,e3];omega
   by_cases hf:fitsOf c.kind c.val.length
   ·rw [decide_eq_true hf]
    simp only [↓vcPre,↓z0,↓reduceIte,vcPost,vcStd,Nat.reduceEqDiff,reduceCtorEq,Nat.reduceAdd,Nat.reduceLeDiff,Int.reduceLT,Int.reduceLE,↓u_setN]
    exact rest hb hf _
   ·have h5:stepA c a = .error (5,c.all):=by unfold stepA;rw [if_neg hw,if_neg hb,if_pos hf]
    rw [decide_eq_false hf]
    simp only [↓vcPre,↓z0,↓reduceIte,vcPost,vcStd,Nat.reduceEqDiff,reduceCtorEq,Nat.reduceAdd,Nat.reduceLeDiff,Int.reduceLT,Int.reduceLE,↓u_setN]
    refine (nt W 5 hVt).Q ?_
    rintro r' t ⟨rfl,rfl⟩
    simp only [outD]
    simp only [W4,W6,h46,h6,z9,szl,szn,↓vcPre,↓z0,↓reduceIte,vcPost,vcStd,Nat.reduceEqDiff,reduceCtorEq,Nat.reduceAdd,Nat.reduceLeDiff,Int.reduceLT,Int.reduceLE,↓u_setN]
    exact hbad _ (5,c.all) h5 hVt
  ·refine (nt W 4 hVt).Q ?_
   rintro r' t ⟨rfl,rfl⟩
   simp only [outD]
   simp only [W4,W6,h46,h6,z9,szl,szn,↓vcPre,↓z0,↓reduceIte,vcPost,vcStd,Nat.reduceEqDiff,reduceCtorEq,Nat.reduceAdd,Nat.reduceLeDiff,Int.reduceLT,Int.reduceLE,↓u_setN]
   exact hbad _ (4,c.all) (f4 (by rw [e2,e3];omega)) hVt
def selN (ty:List Int) (k:Nat):List Int:=((List.range k).map fun n:Nat=>(n:Int)).filter fun x=>decide (x ∈ ty)
theorem z1f (ty:List Int) (k:Nat):selN ty (k+1)=selN ty k++(if (k:Int) ∈ ty then [(k:Int)] else []):=by
 simp only [selN,List.range_succ,List.map_append,List.filter_append,List.map_cons,List.map_nil,List.filter_cons,List.filter_nil,decide_eq_true_eq]
theorem z75 (ty:List Int) (k:Nat):(selN ty k).length≤k:=by
 have:=List.length_filter_le (fun x=>decide (x ∈ ty)) ((List.range k).map fun n:Nat=>(n:Int))
 simpa [selN] using this
theorem z34 {ty:List Int} (hn:ty.Nodup) (hr:∀ x ∈ ty,0≤x∧x<256):selN ty 256=ty.mergeSort leI:=by
 have hlt:((List.range 256).map fun n:Nat=>(n:Int)).Pairwise (· < ·):=by
  rw [List.pairwise_map]
  exact List.pairwise_lt_range.imp fun h=>by omega
 refine z00 ?_ ((hlt.filter _).imp fun h=>by omega)
 refine (List.perm_ext_iff_of_nodup ((hlt.filter _).imp fun h=>by omega) hn).2 fun x => ?_
 simp only [selN,List.mem_filter,List.mem_map,List.mem_range,decide_eq_true_eq]
 refine ⟨fun h=>h.2,fun h=>⟨⟨x.toNat,?_,?_⟩,h⟩⟩
 ·have:=hr x h;omega
 ·have:=hr x h;omega
theorem ze6 {f:Nat} {a:At} {pv cv R:AV} {σ β s:Store} (hp:pv = .sl 2 (a.path.map Seg.c)∨pv = .nils∧a.path=[]) (ho:Own 1 σ (a.cms.map cU) cv β) (hσ:Store.sub σ β) (hs:Store.sub β s)
 (h:∀ σ',ACalls Tryz.prog f [.agg a.c] σ' (fun r s'=>s'=σ'∧r=R)):ACalls Tryz.prog f [.agg [.int .i64 a.org,pv,.int .u32 a.nxt,.bool a.hm,.int .u32 a.med,.bool a.hp,.int .u32 a.prf,.bool a.atm,cv]] s (fun r s'=>r=R∧Store.sub σ s'∧∀ q o,s q=some o→(β q=none∨∀ L,o ≠ .arr 1 L)→s' q=some o):=by
 have h1:Imp pv (.sl 2 (a.path.map Seg.c)):=by
  rcases hp with rfl | ⟨rfl,e⟩
  ·exact .refl rfl
  ·rw [e];exact .nils
 have hf:∀ c ∈ a.c,c.flat=true:=by
  intro c hc
  simp only [At.c,List.mem_cons,List.not_mem_nil,or_false] at hc
  rcases hc with rfl | rfl | rfl | rfl | rfl | rfl | rfl | rfl | rfl <;> rfl
 have hcf:cv.flat=true:=by rcases ho with ⟨_,rfl⟩ | ⟨g,rfl,_⟩ <;> rfl
 have hi:ImpL [.int .i64 a.org,pv,.int .u32 a.nxt,.bool a.hm,.int .u32 a.med,.bool a.hp,.int .u32 a.prf,.bool a.atm,cv] [.int .i64 a.org,.sl 2 (a.path.map Seg.c),.int .u32 a.nxt,.bool a.hm,.int .u32 a.med,.bool a.hp,.int .u32 a.prf,.bool a.atm,cv] :=
  .cons (.refl rfl) (.cons h1 (.cons (.refl rfl) (.cons (.refl rfl) (.cons (.refl rfl) (.cons (.refl rfl) (.cons (.refl rfl) (.cons (.refl rfl) (.cons (.refl hcf) .nil))))))))
 refine ACalls.weakArgs (h s).1 (WeakL.pos 0 rfl (Weak.agg (WeakL.imp hi ?_)))
 rcases ho with ⟨hL,rfl⟩ | ⟨g,rfl,hg,hh⟩
 ·refine WeakL.nil 8 1 rfl (WeakL.pure ?_)
  have e:a.cms=[]:=List.map_eq_nil_iff.1 hL
  have ec:([.int .i64 a.org,.sl 2 (a.path.map Seg.c),.int .u32 a.nxt,.bool a.hm,.int .u32 a.med,.bool a.hp,.int .u32 a.prf,.bool a.atm,.nils]:List AV).set 8 (.sl 1 [])=a.c:=by simp [At.c,e]
  rw [ec]
  refine ⟨hf,WeakL.pure ?_⟩
  exact (h s).mono fun r s' ⟨x,y⟩=>⟨y,x ▸ Store.sub_trans hσ hs,fun q o hq _=>x ▸ hq⟩
 ·refine WeakL.freeze 8 rfl (hs _ _ hh) (by omega) (WeakL.pure ?_)
  have ec:([.int .i64 a.org,.sl 2 (a.path.map Seg.c),.int .u32 a.nxt,.bool a.hm,.int .u32 a.med,.bool a.hp,.int .u32 a.prf,.bool a.atm,.os g 1 0 (a.cms.map cU).length]:List AV).set 8 (.sl 1 (((a.cms.map cU).drop 0).take (a.cms.map cU).length))=a.c:=by rw [List.drop_zero,List.take_length];rfl
  rw [ec]
  refine ⟨hf,WeakL.pure ?_⟩
  refine (h (s.del g)).mono fun r s' ⟨x,y⟩=>⟨y,x ▸ sub_del (Store.sub_trans hσ hs) hg,fun q o hq hc => ?_⟩
  rw [x,Store.del_ne _ (fun e => ?_)]
  ·exact hq
  ·subst e
   rcases hc with hc | hc
   ·rw [hh] at hc;cases hc
   ·rw [hs _ _ hh] at hq;cases hq;exact hc _ rfl
set_option maxHeartbeats 1000000 in
theorem s42 {σ:Store} {B:List Int} {v:AV} (hr:Rd 1 σ (B.map cB) v) (hB:B.length≤1000000) (hu:U8s B) (inner:Bool):ACalls Tryz.prog 42 [v,.bool inner] σ (fun r s=>s=σ∧r=outD (decA inner B)):=by
 refine zg Tsr.F42 (by simp [Tsr.F42,Fn.mkX]) ?_
 simp only [Tsr.F42,Fn.mkX,Tsr.b42]
 rw [z58]
 rw [show [AV.int .i64 0,.nils,.int .u32 0,.bool false,.int .u32 0,.bool false,.int .u32 0,.bool false,.nils]=zC from rfl,show [AV.int .i64 0,.int .i64 0,.nils]=zN from rfl]
 simp only [↓vcPre,↓z0,↓reduceIte,vcPost,vcStd,Nat.reduceEqDiff,reduceCtorEq,Nat.reduceAdd,Nat.reduceLeDiff,Int.reduceLT,Int.reduceLE,↓u_setN]
 refine AllocQ.i0 fun p4 h4 => ?_
 simp only [↓vcPre,↓z0,↓reduceIte,vcPost,vcStd,Nat.reduceEqDiff,reduceCtorEq,Nat.reduceAdd,Nat.reduceLeDiff,Int.reduceLT,Int.reduceLE,↓u_setN]
 refine AllocQ.i1 fun p6 h6 h46 h6s => ?_
 simp only [↓vcPre,↓z0,↓reduceIte,vcPost,vcStd,Nat.reduceEqDiff,reduceCtorEq,Nat.reduceAdd,Nat.reduceLeDiff,Int.reduceLT,Int.reduceLE,↓u_setN]
 have hvt:=hr.isTup
 have sT:Store.sub σ ((σ.set p4 (.box zC)).set p6 (.box zN)):=zo h4 h6s h6
 have T4:((σ.set p4 (.box zC)).set p6 (.box zN)) p4=some (.box zC):=by rw [Store.set_ne _ _ h46,Store.set_same]
 have T6:((σ.set p4 (.box zC)).set p6 (.box zN)) p6=some (.box zN):=Store.set_same _ _ _
 generalize (σ.set p4 (.box zC)).set p6 (.box zN)=T at sT T4 T6 ⊢
 have sp3:splice 0 [v] [.nils,.int .i64 0,.bool false]=some [v,.int .i64 0,.bool false]:=rfl
 simp only [hvt.1,hvt.2,sp3,↓vcPre,↓z0,↓reduceIte,vcPost,vcStd,Nat.reduceEqDiff,reduceCtorEq,Nat.reduceAdd,Nat.reduceLeDiff,Int.reduceLT,Int.reduceLE,↓u_setN]
 refine AllocQ.i0 fun p7 h7 => ?_
 simp only [↓vcPre,↓z0,↓reduceIte,vcPost,vcStd,Nat.reduceEqDiff,reduceCtorEq,Nat.reduceAdd,Nat.reduceLeDiff,Int.reduceLT,Int.reduceLE,↓u_setN]
 refine AllocQ.i1 fun p8 h87 h78 h8 => ?_
 have k4:¬ p4=p7:=fun e=>by rw [e,h7] at T4;cases T4
 have k6:¬ p6=p7:=fun e=>by rw [e,h7] at T6;cases T6
 have k48:¬ p4=p8:=fun e=>by rw [e,h8] at T4;cases T4
 have k68:¬ p6=p8:=fun e=>by rw [e,h8] at T6;cases T6
 have hσ7:=zk sT h7
 have hσ8:=zk sT h8
 simp only [↓vcPre,↓z0,↓reduceIte,vcPost,vcStd,Nat.reduceEqDiff,reduceCtorEq,Nat.reduceAdd,Nat.reduceLeDiff,Int.reduceLT,Int.reduceLE,↓u_setN]
 have sU:Store.sub T ((T.set p7 (.box [v,.int .i64 0,.bool false])).set p8 (.box zC)):=zo h7 h8 h87
 have U7:((T.set p7 (.box [v,.int .i64 0,.bool false])).set p8 (.box zC)) p7=some (.box [v,.int .i64 0,.bool false]):=by rw [Store.set_ne _ _ h78,Store.set_same]
 have U8:((T.set p7 (.box [v,.int .i64 0,.bool false])).set p8 (.box zC)) p8=some (.box zC):=Store.set_same _ _ _
 generalize (T.set p7 (.box [v,.int .i64 0,.bool false])).set p8 (.box zC)=U at sU U7 U8 ⊢
 refine AllocQ.i0 fun p9 h9 => ?_
 simp only [↓vcPre,↓z0,↓reduceIte,vcPost,vcStd,Nat.reduceEqDiff,reduceCtorEq,Nat.reduceAdd,Nat.reduceLeDiff,Int.reduceLT,Int.reduceLE,↓u_setN]
 refine AllocQ.i1 fun pt ht9 h9t ht => ?_
 have U4:=sU _ _ T4
 have U6:=sU _ _ T6
 have q4:¬ p4=p9:=fun e=>by rw [e,h9] at U4;cases U4
 have q6:¬ p6=p9:=fun e=>by rw [e,h9] at U6;cases U6
 have q7:¬ p7=p9:=fun e=>by rw [e,h9] at U7;cases U7
 have q8:¬ p8=p9:=fun e=>by rw [e,h9] at U8;cases U8
 have t4:¬ p4=pt:=fun e=>by rw [e,ht] at U4;cases U4
 have t6:¬ p6=pt:=fun e=>by rw [e,ht] at U6;cases U6
 have t7:¬ p7=pt:=fun e=>by rw [e,ht] at U7;cases U7
 have t8:¬ p8=pt:=fun e=>by rw [e,ht] at U8;cases U8
 have hσ9:=zk (Store.sub_trans sT sU) h9
 have hσt:=zk (Store.sub_trans sT sU) ht
 have sV:Store.sub U ((U.set p9 (.box (flags []))).set pt (.box (flags []))):=zo h9 ht ht9
 have V9:((U.set p9 (.box (flags []))).set pt (.box (flags []))) p9=some (.box (flags [])):=by rw [Store.set_ne _ _ h9t,Store.set_same]
 have Vt:((U.set p9 (.box (flags []))).set pt (.box (flags []))) pt=some (.box (flags [])):=Store.set_same _ _ _
 have V4:=sV _ _ U4
 have V6:=sV _ _ U6
 have V7:=sV _ _ U7
 have V8:=sV _ _ U8
 simp only [↓vcPre,↓z0,↓reduceIte,vcPost,vcStd,Nat.reduceEqDiff,reduceCtorEq,Nat.reduceAdd,Nat.reduceLeDiff,Int.reduceLT,Int.reduceLE,↓u_setN]
 generalize (U.set p9 (.box (flags []))).set pt (.box (flags []))=V at sV V9 Vt V4 V6 V7 V8 ⊢
 have sσ:=Store.sub_trans sT (Store.sub_trans sU sV)
 have hz:RZ σ v B σ p7 B false V:=⟨0,hσ7,sσ,Store.sub_refl _,V7,hr,by omega,by simp,by omega,hu⟩
 have zC9:zC.length=9:=rfl
 have bad:∀ (t:Store) (n:Nt),Store.sub σ t→decL inner B.length B zeroAt [] [] = .error n → @EndQ [(4,.ptr p4 0),(5,.sl 1 []),(6,.ptr p6 0)] ((t.set p4 (.box zeroAt.c)).set p6 (.box [.int .i64 3,.int .i64 n.1,.sl 1 (n.2.map cB)])) ⟨Tsr.F42.slots,fun r s=>s=σ∧r=outD (decA inner B)⟩:=by
  intro t n ht he
  refine EndQ.to σ (.tup [.agg zeroAt.c,.sl 1 [],.agg [.int .i64 3,.int .i64 n.1,.sl 1 (n.2.map cB)]]) ?_ (za (za ht h4) h6s) ⟨rfl,?_⟩
  ·show Env.res [(4,AV.ptr p4 0),(5,.sl 1 []),(6,AV.ptr p6 0)] _ [RS.c 4 9 true,RS.t 5,RS.c 6 3 true]=_
   simp only [h46,h6,Store.set_same,↓vcPre,↓z0,↓reduceIte,vcPost,vcStd,Nat.reduceEqDiff,reduceCtorEq,Nat.reduceAdd,Nat.reduceLeDiff,Int.reduceLT,Int.reduceLE,↓u_setN]
   rfl
  ·simp only [decA,he,outD]
 refine LoopQ.inv (S:=(List Int×At)×(List Int×List Int)×Store) (fun _=>[(0,v),(1,.bool inner),(4,.ptr p4 0),(6,.ptr p6 0),(7,.ptr p7 0),(8,.ptr p8 0),(9,.ptr p9 0),(10,.ptr pt 0)]) (fun w=>w.2.2)
  (fun w=>RZ σ v B σ p7 w.1.1 false w.2.2∧AJ σ p8 w.1.2 (8 ∉ w.2.1.1) w.2.2∧w.1.2.ok∧w.2.2 p4=some (.box zC)∧w.2.2 p6=some (.box zN)∧w.2.2 p9=some (.box (flags w.2.1.1))∧w.2.2 pt=some (.box (flags w.2.1.2))∧w.2.1.2.Nodup∧(∀ x ∈ w.2.1.2,x ∈ w.2.1.1∧0≤x∧x<256)∧decL inner w.1.1.length w.1.1 w.1.2 w.2.1.1 w.2.1.2=decL inner B.length B zeroAt [] [])
  (fun w=>w.1.1.length) ((B,zeroAt),([],[]),V) rfl (Store.sub_refl _) ⟨hz,⟨hσ8,sσ,.nils,.nils,V8,.inr ⟨rfl,rfl⟩,Own.nil,fun _=>⟨rfl,rfl⟩⟩,vh,V4,V6,V9,Vt,by simp,by simp,rfl⟩ ?_
 rintro ⟨⟨R,a⟩,⟨S,ty⟩,s⟩ ⟨i1,i2,i3,i4,i5,i6,i7,i8,i9,i10⟩
 simp only at i1 i2 i3 i4 i5 i6 i7 i8 i9 i10
 simp only [↓vcPre,↓z0,↓reduceIte,vcPost,vcStd,Nat.reduceEqDiff,reduceCtorEq,Nat.reduceAdd,Nat.reduceLeDiff,Int.reduceLT,Int.reduceLE,↓u_setN]
 refine (zcc i1).Q ?_
 rintro r s' ⟨rfl,rfl⟩
 simp only [Bool.false_eq_true,if_false]
 simp only [↓vcPre,↓z0,↓reduceIte,vcPost,vcStd,Nat.reduceEqDiff,reduceCtorEq,Nat.reduceAdd,Nat.reduceLeDiff,Int.reduceLT,Int.reduceLE,↓u_setN]
 have hσs:=i2.2.1
 refine ⟨fun c1 => ?_,fun c1 => ?_⟩
 ·obtain ⟨x0,R2,hR2⟩:∃ x r,R=x::r:=by cases R with | nil=>simp at c1 | cons x r=>exact ⟨x,r,rfl⟩
  obtain ⟨at0,y1,y2,y3,hp7,y4,hat,hR,y5,huB⟩:=i1
  have i1:RZ σ v B σ p7 R false s':=⟨at0,y1,y2,y3,hp7,y4,hat,hR,y5,huB⟩
  have huR:U8s R:=by rw [hR];exact huB.drop _
  have hRlen:R.length=B.length - at0:=by rw [hR,List.length_drop]
  have hstep:decL inner R.length R a S ty=match chunk R with
   | none => .error (1,[])
   | some c=>if c.kind ∈ S then .error (1,[]) else if c.kind=5∧inner=false then decL inner c.rest.length c.rest a (c.kind::S) ty
     else match stepA c a with | .error n => .error n | .ok a'=>decL inner c.rest.length c.rest a' (c.kind::S) (ty++[c.kind]):=by
   rw [hR2]
   show decL inner (R2.length+1) (x0::R2) a S ty=_
   simp only [decL]
   cases hc:chunk (x0::R2) with
   | none=>rfl
   | some c =>
     have hl:=xy hc
     simp only [List.length_cons] at hl
     have e:=fun a S ty=>v8 inner R2.length c.rest.length c.rest a S ty (by omega) (Nat.le_refl _)
     simp only [e]
     rfl
  rw [i10] at hstep
  have hch:=qj huR
  unfold chunkF chain at hch
  have hb:=i1.base
  simp only [hp7,↓vcPre,↓z0,↓reduceIte,vcPost,vcStd,Nat.reduceEqDiff,reduceCtorEq,Nat.reduceAdd,Nat.reduceLeDiff,Int.reduceLT,Int.reduceLE,↓u_setN]
  refine (z7r hb.1).Q ?_
  have n1:=wj (k:=1) (b:=false) huR
  generalize numM 1 R false=q at hch n1 ⊢
  obtain ⟨f,R3,b1⟩:=q
  simp only at hch n1
  rintro r s1 ⟨rfl,h1⟩
  simp only at h1
  simp only [↓vcPre,↓z0,↓reduceIte,vcPost,vcStd,Nat.reduceEqDiff,reduceCtorEq,Nat.reduceAdd,Nat.reduceLeDiff,Int.reduceLT,Int.reduceLE,↓u_setN]
  refine (z7r h1).Q ?_
  have n2:=wj (k:=1) (b:=b1) n1.1
  generalize numM 1 R3 b1=q at hch n2 ⊢
  obtain ⟨k,R4,b2⟩:=q
  simp only at hch n2
  rintro r s2 ⟨rfl,h2⟩
  simp only at h2
  have tail:∀ (n:Int) (R5:List Int) (b3:Bool) (s3:Store) (bo:AV),n<4294967296→RZ σ v B (s'.del p7) p7 R5 b3 s3 →
   ((chunk R=none∧(rawM n R5 b3).2.2=true)∨∃ c,chunk R=some c∧(f,k,n,(rawM n R5 b3).1,(rawM n R5 b3).2.1,(rawM n R5 b3).2.2)=(c.fl,c.kind,(c.val.length:Int),c.val,c.rest,false)∧c.all=R.take (R.length - c.rest.length)∧c.rest=R.drop (R.length - c.rest.length)∧c.rest.length<R.length) →
   ∀ (N Rr:Env→Store→Prop) (X:Nat→Env→Store→Prop),(∀ t nt,Store.sub σ t→decL inner B.length B zeroAt [] [] = .error nt→Rr [(4,.ptr p4 0),(5,.sl 1 []),(6,.ptr p6 0)] ((t.set p4 (.box zeroAt.c)).set p6 (.box [.int .i64 3,.int .i64 nt.1,.sl 1 (nt.2.map cB)]))) →
   (∀ (W1:List Int) (W2:At) (W3 W4:List Int) (t:Store),W1.length<R.length→(RZ σ v B σ p7 W1 false t∧AJ σ p8 W2 (8 ∉ W3) t∧At.ok W2∧t p4=some (.box zC)∧t p6=some (.box zN)∧t p9=some (.box (flags W3))∧t pt=some (.box (flags W4))∧W4.Nodup∧(∀ x ∈ W4,x ∈ W3∧0≤x∧x<256)∧decL inner W1.length W1 W2 W3 W4=decL inner B.length B zeroAt [] [])→(∀ E:Env,N ((0,v)::(1,.bool inner)::(4,.ptr p4 0)::(6,.ptr p6 0)::(7,.ptr p7 0)::(8,.ptr p8 0)::(9,.ptr p9 0)::(10,.ptr pt 0)::E) t)∧(∀ E:Env,X 1 ((0,v)::(1,.bool inner)::(4,.ptr p4 0)::(6,.ptr p6 0)::(7,.ptr p7 0)::(8,.ptr p8 0)::(9,.ptr p9 0)::(10,.ptr pt 0)::E) t)) →
   bwp Tryz.prog Tsr.t42_42 [(0,v),(1,.bool inner),(4,.ptr p4 0),(6,.ptr p6 0),(7,.ptr p7 0),(8,.ptr p8 0),(9,.ptr p9 0),(10,.ptr pt 0),(11,.int .i64 (at0:Int)),(12,.int .i64 f),(13,.int .i64 k),(14,.int .i64 n)] s3 N Rr X:=by
   intro n R5 b3 s3 bo hn h3 hcc N Rr X hret hgo
   simp only [Tsr.t42_42]
   simp only [↓vcPre,↓z0,↓reduceIte,vcPost,vcStd,Nat.reduceEqDiff,reduceCtorEq,Nat.reduceAdd,Nat.reduceLeDiff,Int.reduceLT,Int.reduceLE,↓u_setN]
   refine (ze3 h3 n (by omega)).Q ?_
   generalize rawM n R5 b3=q at hcc ⊢
   obtain ⟨val,R6,b4⟩:=q
   simp only at hcc
   rintro r s4 ⟨rfl,h4'⟩
   simp only at h4'
   obtain ⟨at1,z1,z2,z3,hp4',z4,hat1,hR6,z5,z6⟩:=h4'
   have keep:∀ q o,q≠p7→s' q=some o→s4 q=some o:=fun q o hq h=>z2 _ _ (by rw [Store.del_ne _ hq];exact h)
   have σ4:Store.sub σ s4:=Store.sub_trans hb.2 z2
   have w4:=keep _ _ k4 i4
   have w6:=keep _ _ k6 i5
   have w9:=keep _ _ (fun e=>q7 e.symm) i6
   have wt:=keep _ _ (fun e=>t7 e.symm) i7
   have wA:AJ σ p8 a (8 ∉ S) s4:=by
    obtain ⟨q1,q2,pv,cv,q3,q4,q5,q6⟩:=i2
    refine ⟨q1,σ4,pv,cv,keep _ _ h87 q3,q4,?_,q6⟩
    rcases q5 with h | ⟨g,g1,g2,g3⟩
    ·exact .inl h
    ·exact .inr ⟨g,g1,g2,keep _ _ (fun e=>by rw [e,hp7] at g3;cases g3) g3⟩
   have szl:splice 0 zeroAt.c zC=some zeroAt.c:=rfl
   have szn:∀ x y z:AV,splice 0 [x,y,z] zN=some [x,y,z]:=fun _ _ _=>rfl
   have z9:zeroAt.c.length=9:=rfl
   rcases hcc with ⟨hn0,hb4⟩ | ⟨c,hc,he,hca,hcr,hcl⟩
   ·subst hb4
    rw [hn0] at hstep
    simp only [hp4',↓vcPre,↓z0,↓reduceIte,vcPost,vcStd,Nat.reduceEqDiff,reduceCtorEq,Nat.reduceAdd,Nat.reduceLeDiff,Int.reduceLT,Int.reduceLE,↓u_setN]
    refine (s85 (M:=[]) Rd.nils (by simp) 1).Q ?_
    rintro r t ⟨rfl,rfl⟩
    simp only [outD]
    simp only [w4,w6,h46,h6,z9,szl,szn,↓vcPre,↓z0,↓reduceIte,vcPost,vcStd,Nat.reduceEqDiff,reduceCtorEq,Nat.reduceAdd,Nat.reduceLeDiff,Int.reduceLT,Int.reduceLE,↓u_setN]
    exact hret _ (1,[]) σ4 hstep
   ·rw [hc] at hstep
    simp only at hstep
    have ck:=z43 huR hc
    have cu:=qu huR hc
    simp only [Prod.mk.injEq] at he
    obtain ⟨rfl,rfl,rfl,rfl,rfl,rfl⟩:=he
    have hlen1:c.rest.length=B.length - at1:=by rw [hR6,List.length_drop]
    obtain ⟨wv,hwv,hrw⟩:=hr.slice (lo:=at0) (hi:=at1) (by omega) (by simp only [List.length_map];exact hat1)
    have hall:(List.take at1 (B.map cB)).drop at0=c.all.map cB:=by
     rw [hca,hR,←List.map_take,←List.map_drop,List.drop_take]
     congr 2
     simp only [List.length_drop];omega
    rw [hall] at hrw
    simp only [hp4',hwv,w9,↓vcPre,↓z0,↓reduceIte,vcPost,vcStd,Nat.reduceEqDiff,reduceCtorEq,Nat.reduceAdd,Nat.reduceLeDiff,Int.reduceLT,Int.reduceLE,↓u_setN]
    have hK:c.kind.toNat<256:=by omega
    have hKi:((c.kind.toNat:Nat):Int)=c.kind:=Int.toNat_of_nonneg ck.1
    rw [show 0+c.kind.toNat*1=c.kind.toNat by omega,z18 S hK,z1o S hK,hKi]
    refine ⟨ck,by rw [zy];omega,?_⟩
    by_cases hk:c.kind ∈ S
    ·rw [if_pos hk] at hstep
     rw [decide_eq_true hk]
     simp only [↓vcPre,↓z0,↓reduceIte,vcPost,vcStd,Nat.reduceEqDiff,reduceCtorEq,Nat.reduceAdd,Nat.reduceLeDiff,Int.reduceLT,Int.reduceLE,↓u_setN]
     refine (s85 (M:=[]) Rd.nils (by simp) 1).Q ?_
     rintro r t ⟨rfl,rfl⟩
     simp only [outD]
     simp only [w4,w6,h46,h6,z9,szl,szn,↓vcPre,↓z0,↓reduceIte,vcPost,vcStd,Nat.reduceEqDiff,reduceCtorEq,Nat.reduceAdd,Nat.reduceLeDiff,Int.reduceLT,Int.reduceLE,↓u_setN]
     exact hret _ (1,[]) σ4 hstep
    rw [if_neg hk] at hstep
    rw [decide_eq_false hk]
    simp only [↓vcPre,↓z0,↓reduceIte,vcPost,vcStd,Nat.reduceEqDiff,reduceCtorEq,Nat.reduceAdd,Nat.reduceLeDiff,Int.reduceLT,Int.reduceLE,↓u_setN]
    refine ⟨ck,?_⟩
    have hV':Store.sub σ (s4.set p9 (.box (flags (c.kind::S)))):=za σ4 hσ9
    have V9':(s4.set p9 (.box (flags (c.kind::S)))) p9=some (.box (flags (c.kind::S))):=Store.set_same _ _ _
    have V4':(s4.set p9 (.box (flags (c.kind::S)))) p4=some (.box zC):=by rw [Store.set_ne _ _ q4];exact w4
    have V6':(s4.set p9 (.box (flags (c.kind::S)))) p6=some (.box zN):=by rw [Store.set_ne _ _ q6];exact w6
    have Vt':(s4.set p9 (.box (flags (c.kind::S)))) pt=some (.box (flags ty)):=by rw [Store.set_ne _ _ ht9];exact wt
    have V7':(s4.set p9 (.box (flags (c.kind::S)))) p7=some (.box [v,.int .i64 (at1:Int),.bool false]):=by rw [Store.set_ne _ _ q7];exact hp4'
    have VA':AJ σ p8 a (8 ∉ S) (s4.set p9 (.box (flags (c.kind::S)))):=by
     obtain ⟨r1,r2,pv,cv,r3,r4,r5,r6⟩:=wA
     exact ⟨r1,hV',pv,cv,by rw [Store.set_ne _ _ q8];exact r3,r4,r5.setId w9 (fun M e=>by cases e),r6⟩
    generalize s4.set p9 (.box (flags (c.kind::S)))=Z at hV' V9' V4' V6' Vt' V7' VA' ⊢
    have fin:∀ (a':At) (ty':List Int) (t:Store),a'.ok→AJ σ p8 a' (8 ∉ c.kind::S) t→t pt=some (.box (flags ty'))→(∀ q o,q≠p8→q≠pt→Z q=some o→t q=some o)→ty'.Nodup→(∀ x ∈ ty',x ∈ c.kind::S∧0≤x∧x<256)→decL inner B.length B zeroAt [] []=decL inner c.rest.length c.rest a' (c.kind::S) ty' →
     (RZ σ v B σ p7 c.rest false t∧AJ σ p8 a' (8 ∉ c.kind::S) t∧At.ok a'∧t p4=some (.box zC)∧t p6=some (.box zN)∧t p9=some (.box (flags (c.kind::S)))∧t pt=some (.box (flags ty'))∧ty'.Nodup∧(∀ x ∈ ty',x ∈ c.kind::S∧0≤x∧x<256)∧decL inner c.rest.length c.rest a' (c.kind::S) ty'=decL inner B.length B zeroAt [] []):=by
     intro a' ty' t g1 g2 g3 gk g4 g5 g6
     exact ⟨⟨at1,hσ7,g2.2.1,Store.sub_refl _,gk _ _ h78 t7 V7',hr,hat1,hR6,y5,huB⟩,g2,g1,gk _ _ k48 t4 V4',gk _ _ k68 t6 V6',gk _ _ (fun e=>q8 e.symm) h9t V9',g3,g4,g5,g6.symm⟩
    refine ⟨fun e5 => ?_,fun e5 => ?_⟩
    ·cases hin:inner with
     | false =>
       simp only [↓vcPre,↓z0,↓reduceIte,vcPost,vcStd,Nat.reduceEqDiff,reduceCtorEq,Nat.reduceAdd,Nat.reduceLeDiff,Int.reduceLT,Int.reduceLE,↓u_setN]
       subst hin
       exact (hgo c.rest a (c.kind::S) ty Z hcl (fin a ty Z i3 (VA'.weak fun h h'=>h (List.mem_cons_of_mem _ h')) Vt' (fun _ _ _ _ h=>h) i8 (fun x hx=>⟨List.mem_cons_of_mem _ (i9 x hx).1,(i9 x hx).2⟩) (by rw [hstep,if_pos ⟨e5,rfl⟩]))).2 _
     | true =>
       simp only [↓vcPre,↓z0,↓reduceIte,vcPost,vcStd,Nat.reduceEqDiff,reduceCtorEq,Nat.reduceAdd,Nat.reduceLeDiff,Int.reduceLT,Int.reduceLE,↓u_setN]
       subst hin
       ·have hn5:¬ (c.kind=5∧true=false):=(by simp)
        refine z5m true c a ty (fr:=8 ∉ S) h46 h6 k48 k68 t4 t6 t8 hσt V4' V6' Vt' VA' (fun e h=>hk (e ▸ h)) ck.1 ck.2 (by omega) cu.1 (by omega) hrw (fun a' t g0 gA gt gk => ?_) (fun t nt g0 g1=>hret t nt g1 (by rw [hstep,if_neg hn5,g0]))
        exact hgo c.rest a' (c.kind::S) (ty++[c.kind]) t hcl (fin a' (ty++[c.kind]) t (ww g0 i3 (by omega)) (gA.weak fun h=>⟨fun h'=>h (List.mem_cons_of_mem _ h'),fun e=>h (by rw [e];simp)⟩) (gt.trans (by rw [z17 (S:=c.kind::ty) (S':=ty++[c.kind]) (fun x=>by simp [or_comm])]))
         gk (by rw [List.nodup_append];exact ⟨i8,by simp,fun x hx y hy e=>by simp only [List.mem_singleton] at hy;subst hy;subst e;exact hk (i9 _ hx).1⟩) (fun x hx=>by rcases List.mem_append.1 hx with h | h;exact ⟨List.mem_cons_of_mem _ (i9 x h).1,(i9 x h).2⟩;simp only [List.mem_singleton] at h;subst h;exact ⟨by simp,ck⟩) (by rw [hstep,if_neg hn5,g0]))
    ·have hn5:¬ (c.kind=5∧inner=false):=fun h=>e5 h.1
     refine z5m inner c a ty (fr:=8 ∉ S) h46 h6 k48 k68 t4 t6 t8 hσt V4' V6' Vt' VA' (fun e h=>hk (e ▸ h)) ck.1 ck.2 (by omega) cu.1 (by omega) hrw (fun a' t g0 gA gt gk => ?_) (fun t nt g0 g1=>hret t nt g1 (by rw [hstep,if_neg hn5,g0]))
     exact hgo c.rest a' (c.kind::S) (ty++[c.kind]) t hcl (fin a' (ty++[c.kind]) t (ww g0 i3 (by omega)) (gA.weak fun h=>⟨fun h'=>h (List.mem_cons_of_mem _ h'),fun e=>h (by rw [e];simp)⟩) (gt.trans (by rw [z17 (S:=c.kind::ty) (S':=ty++[c.kind]) (fun x=>by simp [or_comm])]))
      gk (by rw [List.nodup_append];exact ⟨i8,by simp,fun x hx y hy e=>by simp only [List.mem_singleton] at hy;subst hy;subst e;exact hk (i9 _ hx).1⟩) (fun x hx=>by rcases List.mem_append.1 hx with h | h;exact ⟨List.mem_cons_of_mem _ (i9 x h).1,(i9 x h).2⟩;simp only [List.mem_singleton] at h;subst h;exact ⟨by simp,ck⟩) (by rw [hstep,if_neg hn5,g0]))
  simp only [↓vcPre,↓z0,↓reduceIte,vcPost,vcStd,Nat.reduceEqDiff,reduceCtorEq,Nat.reduceAdd,Nat.reduceLeDiff,Int.reduceLT,Int.reduceLE,↓u_setN]
  refine ⟨fun g => ?_,fun g => ?_⟩
  ·rw [show (if andI f 16=0 then numM 1 R4 b2 else numM 2 R4 b2)=numM 2 R4 b2 from if_neg g] at hch
   refine (ze4 h2).Q ?_
   have n3:=yp (k:=2) (by omega) (R:=R4) (bad:=b2) n2.1
   rintro r s3 ⟨rfl,h3⟩
   simp only [↓vcPre,↓z0,↓reduceIte,vcPost,vcStd,Nat.reduceEqDiff,reduceCtorEq,Nat.reduceAdd,Nat.reduceLeDiff,Int.reduceLT,Int.reduceLE,↓u_setN]
   exact tail _ _ _ s3 .nil n3.2 h3 hch _ _ _ (fun t nt g1 g2=>bad t nt g1 g2) (fun W1 W2 W3 W4 t hl hI=>⟨fun E=>NextQ.to ((W1,W2),(W3,W4),t) rfl (Store.sub_refl _) hl hI,fun E=>by rw [if_pos rfl];exact NextQ.to ((W1,W2),(W3,W4),t) rfl (Store.sub_refl _) hl hI⟩)
  ·rw [show (if andI f 16=0 then numM 1 R4 b2 else numM 2 R4 b2)=numM 1 R4 b2 from if_pos g] at hch
   refine (z7r h2).Q ?_
   have n3:=yp (k:=1) (by omega) (R:=R4) (bad:=b2) n2.1
   rintro r s3 ⟨rfl,h3⟩
   simp only [↓vcPre,↓z0,↓reduceIte,vcPost,vcStd,Nat.reduceEqDiff,reduceCtorEq,Nat.reduceAdd,Nat.reduceLeDiff,Int.reduceLT,Int.reduceLE,↓u_setN]
   exact tail _ _ _ s3 .nil n3.2 h3 hch _ _ _ (fun t nt g1 g2=>bad t nt g1 g2) (fun W1 W2 W3 W4 t hl hI=>⟨fun E=>NextQ.to ((W1,W2),(W3,W4),t) rfl (Store.sub_refl _) hl hI,fun E=>by rw [if_pos rfl];exact NextQ.to ((W1,W2),(W3,W4),t) rfl (Store.sub_refl _) hl hI⟩)
 ·have hR0:R=[]:=by cases R with | nil=>rfl | cons x r=>simp at c1
  subst hR0
  have hfin:decL inner B.length B zeroAt [] [] = .ok (a,ty):=by rw [←i10];rfl
  simp only [Tsr.t42_19]
  simp only [↓vcPre,↓z0,↓reduceIte,vcPost,vcStd,Nat.reduceEqDiff,reduceCtorEq,Nat.reduceAdd,Nat.reduceLeDiff,Int.reduceLT,Int.reduceLE,↓u_setN]
  refine LoopQ.inv (S:=Nat×List Int×AV×Store) (fun w=>[(4,.ptr p4 0),(6,.ptr p6 0),(8,.ptr p8 0),(10,.ptr pt 0),(19,w.2.2.1),(20,.int .i64 (w.1:Int))]) (fun w=>w.2.2.2) (fun w=>w.1≤256∧Store.sub s' w.2.2.2∧Own 1 s' (w.2.1.map cI) w.2.2.1 w.2.2.2∧w.2.1=selN ty w.1) (fun w=>257 - w.1) (0,[],.nils,s') rfl (Store.sub_refl _) ⟨by simp,Store.sub_refl _,Own.nil,rfl⟩ ?_
  rintro ⟨k,l,lv,t⟩ ⟨m1,m2,m3,m4⟩
  simp only at m1 m2 m3 m4
  have ht:=m2 _ _ i7
  simp only [ht,↓vcPre,↓z0,↓reduceIte,vcPost,vcStd,Nat.reduceEqDiff,reduceCtorEq,Nat.reduceAdd,Nat.reduceLeDiff,Int.reduceLT,Int.reduceLE,↓u_setN]
  refine ⟨fun d1 => ?_,fun d1 => ?_⟩
  ·have hk:k<256:=by omega
   have ei:IntKind.i64.wrap ((k:Int)+1)=((k+1:Nat):Int):=by rw [zd (by unfold I64;omega)];omega
   have hll:l.length≤k:=by rw [m4];exact z75 ty k
   refine ⟨hk,by rw [zy];omega,?_⟩
   rw [show 0+k*1=k by omega,z18 ty hk]
   by_cases hm:(k:Int) ∈ ty
   ·rw [decide_eq_true hm]
    simp only [↓vcPre,↓z0,↓reduceIte,vcPost,vcStd,Nat.reduceEqDiff,reduceCtorEq,Nat.reduceAdd,Nat.reduceLeDiff,Int.reduceLT,Int.reduceLE,↓u_setN]
    refine AllocQ.i0 fun b hb => ?_
    simp only [↓vcPre,↓z0,↓reduceIte,vcPost,vcStd,Nat.reduceEqDiff,reduceCtorEq,Nat.reduceAdd,Nat.reduceLeDiff,Int.reduceLT,Int.reduceLE,↓u_setN]
    have hsb:=Store.sub_set t b (.arr 1 [[.int .i64 (k:Int)]]) hb
    refine Own.appM (τ:=s') (bytes:=8) (Store.sub_trans m2 hsb) (m3.mono hsb) (zm (Store.set_same _ _ _) rfl) (by simp;omega) fun v' t' ht' ho' => ?_
    rw [ei]
    exact NextQ.to (k+1,l++[(k:Int)],v',t') rfl (Store.sub_refl _) (by simp only;omega) ⟨by simp only;omega,ht',by simpa [cI] using ho',by show l++[(k:Int)]=selN ty (k+1);rw [z1f,if_pos hm,←m4]⟩
   ·rw [decide_eq_false hm]
    simp only [↓vcPre,↓z0,↓reduceIte,vcPost,vcStd,Nat.reduceEqDiff,reduceCtorEq,Nat.reduceAdd,Nat.reduceLeDiff,Int.reduceLT,Int.reduceLE,↓u_setN]
    rw [ei]
    exact NextQ.to (k+1,l,lv,t) rfl (Store.sub_refl _) (by simp only;omega) ⟨by simp only;omega,m2,m3,by show l=selN ty (k+1);rw [z1f,if_neg hm,List.append_nil];exact m4⟩
  ·have hk:k=256:=by omega
   subst hk
   rw [z34 i8 (fun x hx=>(i9 x hx).2)] at m4
   obtain ⟨r1,r2,pv,cv,r3,r4,r5,r6⟩:=i2
   simp only [Tsr.t42_144]
   simp only [m2 _ _ r3,↓vcPre,↓z0,↓reduceIte,vcPost,vcStd,Nat.reduceEqDiff,reduceCtorEq,Nat.reduceAdd,Nat.reduceLeDiff,Int.reduceLT,Int.reduceLE,↓u_setN]
   refine (ze6 r4 r5 r2 m2 (c41 a i3)).Q ?_
   rintro r t' ⟨rfl,hσt,hkp⟩
   have w4:=hkp _ _ (m2 _ _ i4) (.inr fun L e=>by cases e)
   have w6:=hkp _ _ (m2 _ _ i5) (.inr fun L e=>by cases e)
   have e9:∀ x:At,x.c.length=9:=fun _=>rfl
   have spZ:∀ x:At,splice 0 x.c zC=some x.c:=fun _=>rfl
   have snn:splice 0 zN zN=some zN:=rfl
   have z3:zN.length=3:=rfl
   have snl:splice 0 [.int .i64 0,.int .i64 0,.nils] zN=some zN:=rfl
   have ho:Own 1 σ (l.map cI) lv t':=by
    rcases m3 with h | ⟨g,g1,g2,g3⟩
    ·exact .inl h
    ·exact .inr ⟨g,g1,zk hσs g2,hkp _ _ g3 (.inl g2)⟩
   have ho2:Own 1 σ (l.map cI) lv ((t'.set p4 (.box (canonA a).c)).set p6 (.box zN)):=(ho.setId w4 (fun M e=>by cases e)).setId (by rw [Store.set_ne _ _ h6];exact w6) (fun M e=>by cases e)
   simp only [w4,w6,h46,h6,e9,spZ,snn,z3,snl,↓vcPre,↓z0,↓reduceIte,vcPost,vcStd,Nat.reduceEqDiff,reduceCtorEq,Nat.reduceAdd,Nat.reduceLeDiff,Int.reduceLT,Int.reduceLE,↓u_setN]
   refine EndQ.threeS (cs:=(canonA a).c) (cs':=(canonA a).c) (ns:=zN) (ns':=[.int .i64 0,.int .i64 0,.sl 1 []]) (tv:=lv) (L:=l.map cI) ?_ (ImpL.refl _ (fun c hc => ?_)) (.cons (.refl rfl) (.cons (.refl rfl) (.cons .nils .nil))) ho2 (za (za hσt h4) h6s) ⟨rfl,?_⟩
   ·show Env.res [(4,AV.ptr p4 0),(5,lv),(6,AV.ptr p6 0)] _ [RS.c 4 9 true,RS.t 5,RS.c 6 3 true]=_
    simp only [h46,h6,Store.set_same,↓vcPre,↓z0,↓reduceIte,vcPost,vcStd,Nat.reduceEqDiff,reduceCtorEq,Nat.reduceAdd,Nat.reduceLeDiff,Int.reduceLT,Int.reduceLE,↓u_setN]
    rfl
   ·simp only [At.c,List.mem_cons,List.not_mem_nil,or_false] at hc
    rcases hc with rfl | rfl | rfl | rfl | rfl | rfl | rfl | rfl | rfl <;> rfl
   ·simp only [decA,hfin,outD,m4]
end Go.Am
namespace Go.Am
open Go.Proofs Go.Sort
def byL (L:List Int):List UInt8:=L.map fun n=>UInt8.ofNat n.toNat
theorem z1l:∀ (L:List Int) (acc:List UInt8),toBytes (L.map cB) acc=some (acc.reverse++byL L)
 | [],acc=>by simp [toBytes,byL]
 | x::L,acc=>by
   show toBytes ([.int .u8 x]::L.map cB) acc=_
   simp only [toBytes]
   rw [z1l L];simp [byL]
theorem z08 {τ:Store} {L:List Int} {v:AV} (h:Rd 1 τ (L.map cB) v) {t:Store} (ht:Store.sub τ t):ldv .str [v] t=some (.str ⟨(byL L).toArray⟩):=by
 simp only [ldv,h.1 t ht,Option.bind_some,z1l,List.reverse_nil,List.nil_append,Option.map_some]
theorem z7y {a b:List UInt8}:pv (.eqs false) [.str ⟨a.toArray⟩,.str ⟨b.toArray⟩]=some (.bool (a ==b)):=by
 simp [pv,pEqs]
theorem z3w (b:Bool):(b ==b)=true:=by cases b <;> rfl
theorem zaa (l:List UInt8):(l ==l)=true:=by simp
end Go.Am
namespace Go.Am
open Go.Proofs Go.Sort
theorem c30 (l:List Int) (h:l.length≤1000000):Pur Tryz.prog 30 [.sl 1 (l.map cI),.sl 1 (l.map cI)] (.bool true):=by
 refine zp Tst.F30 (by simp [Tst.F30,Fn.mkX]) fun σ => ?_
 simp only [Tst.F30,Fn.mkX,Tst.b30]
 simp only [↓vcPre,↓z0,↓reduceIte,vcPost,vcStd,Nat.reduceEqDiff,reduceCtorEq,Nat.reduceAdd,Nat.reduceLeDiff,Int.reduceLT,Int.reduceLE,↓u_setN]
 refine LoopQ.inv (S:=Nat) (fun k=>[(0,.sl 1 (l.map cI)),(1,.sl 1 (l.map cI)),(5,.int .i64 (k:Int))]) (fun _=>σ) (fun k=>k≤l.length) (fun k=>l.length+1 - k) 0 rfl (Store.sub_refl _) (by omega) ?_
 rintro k hk
 simp only [↓vcPre,↓z0,↓reduceIte,vcPost,vcStd,Nat.reduceEqDiff,reduceCtorEq,Nat.reduceAdd,Nat.reduceLeDiff,Int.reduceLT,Int.reduceLE,↓u_setN]
 intro c1
 have ek:IntKind.i64.wrap ((k:Int)+1)=((k+1:Nat):Int):=by rw [zd (by unfold I64;omega)];omega
 refine ⟨by omega,by omega,by simp [cI],?_⟩
 simp only [cI,↓vcPre,↓z0,↓reduceIte,vcPost,vcStd,Nat.reduceEqDiff,reduceCtorEq,Nat.reduceAdd,Nat.reduceLeDiff,Int.reduceLT,Int.reduceLE,↓u_setN]
 rw [ek]
 exact NextQ.to (k+1) rfl (Store.sub_refl _) (by omega) (by omega)
theorem c43 (p q:Int) (M:List Int):Pur Tryz.prog 43 [.agg [.int .i64 p,.int .i64 q,.sl 1 (M.map cB)],.agg [.int .i64 p,.int .i64 q,.sl 1 (M.map cB)]] (.bool true):=by
 refine zp Tst.F43 (by simp [Tst.F43,Fn.mkX]) fun σ => ?_
 simp only [Tst.F43,Fn.mkX,Tst.b43]
 simp only [↓vcPre,↓z0,↓reduceIte,vcPost,vcStd,Nat.reduceEqDiff,reduceCtorEq,Nat.reduceAdd,Nat.reduceLeDiff,Int.reduceLT,Int.reduceLE,↓u_setN]
 refine AllocQ.i0 fun i hi => ?_
 simp only [↓vcPre,↓z0,↓reduceIte,vcPost,vcStd,Nat.reduceEqDiff,reduceCtorEq,Nat.reduceAdd,Nat.reduceLeDiff,Int.reduceLT,Int.reduceLE,↓u_setN]
 refine AllocQ.i1 fun j hj1 hj2 hj => ?_
 have hx:∀ s:Store,Rd 1 s (M.map cB) (.sl 1 (M.map cB)):=fun _=>Rd.sl
 have l1:=z08 (hx ((σ.set i (.box [.int .i64 p,.int .i64 q,.sl 1 (M.map cB)])).set j (.box [.int .i64 p,.int .i64 q,.sl 1 (M.map cB)]))) (Store.sub_refl _)
 simp only [hj1,hj2,l1,z7y,zaa,↓vcPre,↓z0,↓reduceIte,vcPost,vcStd,Nat.reduceEqDiff,reduceCtorEq,Nat.reduceAdd,Nat.reduceLeDiff,Int.reduceLT,Int.reduceLE,↓u_setN]
 exact zo hi hj hj1
theorem z0o (inner:Bool):∀ (f:Nat) (b:List Int) (a:At) (S ty:List Int) (a':At) (ty':List Int),decL inner f b a S ty = .ok (a',ty')→U8s b→b.length≤1000000→a.ok→a'.ok∧ty'.length≤ty.length+b.length
 | _,[],a,_,ty,a',ty',h,_,_,ha=>by
   simp only [decL] at h;cases h;exact ⟨ha,by omega⟩
 | 0,_::_,_,_,_,_,_,h,_,_,_=>by simp only [decL] at h;cases h
 | f+1,x::r,a,S,ty,a',ty',h,hu,hb,ha=>by
   simp only [decL] at h
   cases hc:chunk (x::r) with
   | none=>rw [hc] at h;cases h
   | some c =>
     rw [hc] at h
     simp only at h
     have hl:=xy hc
     have cu:=qu hu hc
     split at h
     ·cases h
     ·split at h
      ·have:=z0o inner f c.rest a _ _ _ _ h cu.2.1 (by omega) ha
       exact ⟨this.1,by omega⟩
      ·cases hs:stepA c a with
       | error n=>rw [hs] at h;cases h
       | ok a2 =>
         rw [hs] at h
         have:=z0o inner f c.rest a2 _ _ _ _ h cu.2.1 (by omega) (ww hs ha (by omega))
         refine ⟨this.1,?_⟩
         have h2:=this.2
         simp only [List.length_append,List.length_singleton] at h2
         omega
theorem z5d (inner:Bool) {B:List Int} (hu:U8s B) (hB:B.length≤1000000):∃ (A:At) (T:List Int) (p q:Int) (M:List Int),A.ok∧T.length≤1000000∧outD (decA inner B) = .tup [.agg A.c,.sl 1 (T.map cI),.agg [.int .i64 p,.int .i64 q,.sl 1 (M.map cB)]]:=by
 unfold decA
 cases h:decL inner B.length B zeroAt [] [] with
 | error n=>exact ⟨zeroAt,[],3,n.1,n.2,vh,by simp,rfl⟩
 | ok x =>
   obtain ⟨a,ty⟩:=x
   have:=z0o inner _ _ _ _ _ _ _ h hu hB vh
   exact ⟨canonA a,ty.mergeSort leI,0,0,[],xg this.1,by have:=this.2;simp only [List.length_mergeSort];simp at this;omega,rfl⟩
set_option maxHeartbeats 1000000 in
theorem s15 {σ:Store} {B:List Int} {v:AV} (hr:Rd 1 σ (B.map cB) v) (hB:B.length≤1000000) (hu:U8s B):ACalls Tryz.prog 15 [v] σ (fun r s=>s=σ∧r = .bool true):=by
 refine zg Tst.F15 (by simp [Tst.F15,Fn.mkX]) ?_
 simp only [Tst.F15,Fn.mkX,Tst.b15]
 rw [show [AV.int .i64 0,.nils,.int .u32 0,.bool false,.int .u32 0,.bool false,.int .u32 0,.bool false,.nils]=zC from rfl,show [AV.int .i64 0,.int .i64 0,.nils]=zN from rfl]
 simp only [↓vcPre,↓z0,↓reduceIte,vcPost,vcStd,Nat.reduceEqDiff,reduceCtorEq,Nat.reduceAdd,Nat.reduceLeDiff,Int.reduceLT,Int.reduceLE,↓u_setN]
 refine AllocQ.i0 fun p hp => ?_
 simp only [↓vcPre,↓z0,↓reduceIte,vcPost,vcStd,Nat.reduceEqDiff,reduceCtorEq,Nat.reduceAdd,Nat.reduceLeDiff,Int.reduceLT,Int.reduceLE,↓u_setN]
 have hs0:=Store.sub_set σ p (.arr 1 [[.bool false],[.bool true]]) hp
 refine LoopQ.inv (S:=Nat×Store) (fun w=>[(0,v),(11,.os p 1 0 2),(12,.int .i64 2),(13,.int .i64 (w.1:Int))]) (fun w=>w.2) (fun w=>w.1≤2∧Store.sub σ w.2∧w.2 p=some (.arr 1 [[.bool false],[.bool true]])) (fun w=>3 - w.1) (0,σ.set p (.arr 1 [[.bool false],[.bool true]])) rfl (Store.sub_refl _) ⟨by simp,hs0,Store.set_same _ _ _⟩ ?_
 rintro ⟨k,s⟩ ⟨m1,m2,m3⟩
 simp only at m1 m2 m3
 simp only [↓vcPre,↓z0,↓reduceIte,vcPost,vcStd,Nat.reduceEqDiff,reduceCtorEq,Nat.reduceAdd,Nat.reduceLeDiff,Int.reduceLT,Int.reduceLE,↓u_setN]
 refine ⟨fun c1 => ?_,fun c1=>EndQ.to σ _ rfl m2 ⟨rfl,rfl⟩⟩
 have hk:k=0∨k=1:=by omega
 have hr':=hr.mono m2
 obtain ⟨bo,hbo⟩:∃ bo,bo=decide (k=1):=⟨_,rfl⟩
 obtain ⟨A,Ty,p1,p2,M,hA,hT,ho⟩:=z5d bo hu hB
 have D1:=s28 hr' hB hu bo
 have D2:=fun t (h:Store.sub s t)=>s42 (hr'.mono h) hB hu bo
 rw [ho] at D1
 simp only [ho] at D2
 have e9:∀ x:At,x.c.length=9:=fun _=>rfl
 have t9:∀ x:At,List.take 9 x.c=x.c:=fun _=>rfl
 have spZ:∀ x:At,splice 0 x.c zC=some x.c:=fun _=>rfl
 have szn:∀ x y z:AV,splice 0 [x,y,z] zN=some [x,y,z]:=fun _ _ _=>rfl
 have tkb:∀ b:Bool,List.take 1 [AV.bool b]=[AV.bool b]:=fun _=>rfl
 have d01:decide ((0:Nat)=1)=false:=rfl
 have d11:decide ((1:Nat)=1)=true:=rfl
 rcases hk with rfl | rfl
 ·rw [d01] at hbo
  subst hbo
  refine ⟨by decide,?_⟩
  simp only [m3,↓vcPre,↓z0,↓reduceIte,vcPost,vcStd,Nat.reduceEqDiff,reduceCtorEq,Nat.reduceAdd,Nat.reduceLeDiff,Int.reduceLT,Int.reduceLE,↓u_setN]
  refine ⟨by decide,by decide,?_⟩
  simp only [List.getElem_cons_zero,tkb,↓vcPre,↓z0,↓reduceIte,vcPost,vcStd,Nat.reduceEqDiff,reduceCtorEq,Nat.reduceAdd,Nat.reduceLeDiff,Int.reduceLT,Int.reduceLE,↓u_setN]
  refine D1.Q ?_
  rintro r t ⟨rfl,rfl⟩
  simp only [↓vcPre,↓z0,↓reduceIte,vcPost,vcStd,Nat.reduceEqDiff,reduceCtorEq,Nat.reduceAdd,Nat.reduceLeDiff,Int.reduceLT,Int.reduceLE,↓u_setN]
  refine AllocQ.i0 fun a1 ha1 => ?_
  simp only [↓vcPre,↓z0,↓reduceIte,vcPost,vcStd,Nat.reduceEqDiff,reduceCtorEq,Nat.reduceAdd,Nat.reduceLeDiff,Int.reduceLT,Int.reduceLE,↓u_setN]
  refine AllocQ.i1 fun a2 h21 h12 ha2 => ?_
  simp only [h21,h12,e9,spZ,szn,↓vcPre,↓z0,↓reduceIte,vcPost,vcStd,Nat.reduceEqDiff,reduceCtorEq,Nat.reduceAdd,Nat.reduceLeDiff,Int.reduceLT,Int.reduceLE,↓u_setN]
  have sU:Store.sub t ((((t.set a1 (.box zC)).set a2 (.box zN)).set a1 (.box A.c)).set a2 (.box [.int .i64 p1,.int .i64 p2,.sl 1 (M.map cB)])):=za (za (zo ha1 ha2 h21) ha1) ha2
  have U1:((((t.set a1 (.box zC)).set a2 (.box zN)).set a1 (.box A.c)).set a2 (.box [.int .i64 p1,.int .i64 p2,.sl 1 (M.map cB)])) a1=some (.box A.c):=by rw [Store.set_ne _ _ h12,Store.set_same]
  have U2:((((t.set a1 (.box zC)).set a2 (.box zN)).set a1 (.box A.c)).set a2 (.box [.int .i64 p1,.int .i64 p2,.sl 1 (M.map cB)])) a2=some (.box [.int .i64 p1,.int .i64 p2,.sl 1 (M.map cB)]):=Store.set_same _ _ _
  generalize ((((t.set a1 (.box zC)).set a2 (.box zN)).set a1 (.box A.c)).set a2 (.box [.int .i64 p1,.int .i64 p2,.sl 1 (M.map cB)]))=U at sU U1 U2 ⊢
  refine (D2 _ sU).Q ?_
  rintro r t2 ⟨rfl,rfl⟩
  simp only [↓vcPre,↓z0,↓reduceIte,vcPost,vcStd,Nat.reduceEqDiff,reduceCtorEq,Nat.reduceAdd,Nat.reduceLeDiff,Int.reduceLT,Int.reduceLE,↓u_setN]
  refine AllocQ.i0 fun b1 hb1 => ?_
  simp only [↓vcPre,↓z0,↓reduceIte,vcPost,vcStd,Nat.reduceEqDiff,reduceCtorEq,Nat.reduceAdd,Nat.reduceLeDiff,Int.reduceLT,Int.reduceLE,↓u_setN]
  refine AllocQ.i1 fun b2 g21 g12 hb2 => ?_
  simp only [g21,g12,e9,spZ,szn,↓vcPre,↓z0,↓reduceIte,vcPost,vcStd,Nat.reduceEqDiff,reduceCtorEq,Nat.reduceAdd,Nat.reduceLeDiff,Int.reduceLT,Int.reduceLE,↓u_setN]
  have sW:Store.sub t2 ((((t2.set b1 (.box zC)).set b2 (.box zN)).set b1 (.box A.c)).set b2 (.box [.int .i64 p1,.int .i64 p2,.sl 1 (M.map cB)])):=za (za (zo hb1 hb2 g21) hb1) hb2
  have W1:((((t2.set b1 (.box zC)).set b2 (.box zN)).set b1 (.box A.c)).set b2 (.box [.int .i64 p1,.int .i64 p2,.sl 1 (M.map cB)])) b1=some (.box A.c):=by rw [Store.set_ne _ _ g12,Store.set_same]
  have W2:((((t2.set b1 (.box zC)).set b2 (.box zN)).set b1 (.box A.c)).set b2 (.box [.int .i64 p1,.int .i64 p2,.sl 1 (M.map cB)])) b2=some (.box [.int .i64 p1,.int .i64 p2,.sl 1 (M.map cB)]):=Store.set_same _ _ _
  generalize ((((t2.set b1 (.box zC)).set b2 (.box zN)).set b1 (.box A.c)).set b2 (.box [.int .i64 p1,.int .i64 p2,.sl 1 (M.map cB)]))=W at sW W1 W2 ⊢
  have W3:=sW _ _ U1
  have W4:=sW _ _ U2
  simp only [W1,W3,e9,t9,Nat.le_refl,↓vcPre,↓z0,↓reduceIte,vcPost,vcStd,Nat.reduceEqDiff,reduceCtorEq,Nat.reduceAdd,Nat.reduceLeDiff,Int.reduceLT,Int.reduceLE,↓u_setN]
  refine (c26 A A hA hA).Q ?_
  rw [show decide (A=A)=true by simp]
  simp only [↓vcPre,↓z0,↓reduceIte,vcPost,vcStd,Nat.reduceEqDiff,reduceCtorEq,Nat.reduceAdd,Nat.reduceLeDiff,Int.reduceLT,Int.reduceLE,↓u_setN]
  refine (c30 Ty hT).Q ?_
  simp only [W2,W4,↓vcPre,↓z0,↓reduceIte,vcPost,vcStd,Nat.reduceEqDiff,reduceCtorEq,Nat.reduceAdd,Nat.reduceLeDiff,Int.reduceLT,Int.reduceLE,↓u_setN]
  refine (c43 p1 p2 M).Q ?_
  simp only [↓vcPre,↓z0,↓reduceIte,vcPost,vcStd,Nat.reduceEqDiff,reduceCtorEq,Nat.reduceAdd,Nat.reduceLeDiff,Int.reduceLT,Int.reduceLE,↓u_setN]
  refine NextQ.to (1,W) rfl (Store.sub_refl _) (by simp only;omega) ⟨by simp only;omega,Store.sub_trans m2 (Store.sub_trans sU sW),(Store.sub_trans sU sW) _ _ m3⟩
 ·rw [d11] at hbo
  subst hbo
  refine ⟨by decide,?_⟩
  simp only [m3,↓vcPre,↓z0,↓reduceIte,vcPost,vcStd,Nat.reduceEqDiff,reduceCtorEq,Nat.reduceAdd,Nat.reduceLeDiff,Int.reduceLT,Int.reduceLE,↓u_setN]
  refine ⟨by decide,by decide,?_⟩
  simp only [List.getElem_cons_succ,List.getElem_cons_zero,tkb,↓vcPre,↓z0,↓reduceIte,vcPost,vcStd,Nat.reduceEqDiff,reduceCtorEq,Nat.reduceAdd,Nat.reduceLeDiff,Int.reduceLT,Int.reduceLE,↓u_setN]
  refine D1.Q ?_
  rintro r t ⟨rfl,rfl⟩
  simp only [↓vcPre,↓z0,↓reduceIte,vcPost,vcStd,Nat.reduceEqDiff,reduceCtorEq,Nat.reduceAdd,Nat.reduceLeDiff,Int.reduceLT,Int.reduceLE,↓u_setN]
  refine AllocQ.i0 fun a1 ha1 => ?_
  simp only [↓vcPre,↓z0,↓reduceIte,vcPost,vcStd,Nat.reduceEqDiff,reduceCtorEq,Nat.reduceAdd,Nat.reduceLeDiff,Int.reduceLT,Int.reduceLE,↓u_setN]
  refine AllocQ.i1 fun a2 h21 h12 ha2 => ?_
  simp only [h21,h12,e9,spZ,szn,↓vcPre,↓z0,↓reduceIte,vcPost,vcStd,Nat.reduceEqDiff,reduceCtorEq,Nat.reduceAdd,Nat.reduceLeDiff,Int.reduceLT,Int.reduceLE,↓u_setN]
  have sU:Store.sub t ((((t.set a1 (.box zC)).set a2 (.box zN)).set a1 (.box A.c)).set a2 (.box [.int .i64 p1,.int .i64 p2,.sl 1 (M.map cB)])):=za (za (zo ha1 ha2 h21) ha1) ha2
  have U1:((((t.set a1 (.box zC)).set a2 (.box zN)).set a1 (.box A.c)).set a2 (.box [.int .i64 p1,.int .i64 p2,.sl 1 (M.map cB)])) a1=some (.box A.c):=by rw [Store.set_ne _ _ h12,Store.set_same]
  have U2:((((t.set a1 (.box zC)).set a2 (.box zN)).set a1 (.box A.c)).set a2 (.box [.int .i64 p1,.int .i64 p2,.sl 1 (M.map cB)])) a2=some (.box [.int .i64 p1,.int .i64 p2,.sl 1 (M.map cB)]):=Store.set_same _ _ _
  generalize ((((t.set a1 (.box zC)).set a2 (.box zN)).set a1 (.box A.c)).set a2 (.box [.int .i64 p1,.int .i64 p2,.sl 1 (M.map cB)]))=U at sU U1 U2 ⊢
  refine (D2 _ sU).Q ?_
  rintro r t2 ⟨rfl,rfl⟩
  simp only [↓vcPre,↓z0,↓reduceIte,vcPost,vcStd,Nat.reduceEqDiff,reduceCtorEq,Nat.reduceAdd,Nat.reduceLeDiff,Int.reduceLT,Int.reduceLE,↓u_setN]
  refine AllocQ.i0 fun b1 hb1 => ?_
  simp only [↓vcPre,↓z0,↓reduceIte,vcPost,vcStd,Nat.reduceEqDiff,reduceCtorEq,Nat.reduceAdd,Nat.reduceLeDiff,Int.reduceLT,Int.reduceLE,↓u_setN]
  refine AllocQ.i1 fun b2 g21 g12 hb2 => ?_
  simp only [g21,g12,e9,spZ,szn,↓vcPre,↓z0,↓reduceIte,vcPost,vcStd,Nat.reduceEqDiff,reduceCtorEq,Nat.reduceAdd,Nat.reduceLeDiff,Int.reduceLT,Int.reduceLE,↓u_setN]
  have sW:Store.sub t2 ((((t2.set b1 (.box zC)).set b2 (.box zN)).set b1 (.box A.c)).set b2 (.box [.int .i64 p1,.int .i64 p2,.sl 1 (M.map cB)])):=za (za (zo hb1 hb2 g21) hb1) hb2
  have W1:((((t2.set b1 (.box zC)).set b2 (.box zN)).set b1 (.box A.c)).set b2 (.box [.int .i64 p1,.int .i64 p2,.sl 1 (M.map cB)])) b1=some (.box A.c):=by rw [Store.set_ne _ _ g12,Store.set_same]
  have W2:((((t2.set b1 (.box zC)).set b2 (.box zN)).set b1 (.box A.c)).set b2 (.box [.int .i64 p1,.int .i64 p2,.sl 1 (M.map cB)])) b2=some (.box [.int .i64 p1,.int .i64 p2,.sl 1 (M.map cB)]):=Store.set_same _ _ _
  generalize ((((t2.set b1 (.box zC)).set b2 (.box zN)).set b1 (.box A.c)).set b2 (.box [.int .i64 p1,.int .i64 p2,.sl 1 (M.map cB)]))=W at sW W1 W2 ⊢
  have W3:=sW _ _ U1
  have W4:=sW _ _ U2
  simp only [W1,W3,e9,t9,Nat.le_refl,↓vcPre,↓z0,↓reduceIte,vcPost,vcStd,Nat.reduceEqDiff,reduceCtorEq,Nat.reduceAdd,Nat.reduceLeDiff,Int.reduceLT,Int.reduceLE,↓u_setN]
  refine (c26 A A hA hA).Q ?_
  rw [show decide (A=A)=true by simp]
  simp only [↓vcPre,↓z0,↓reduceIte,vcPost,vcStd,Nat.reduceEqDiff,reduceCtorEq,Nat.reduceAdd,Nat.reduceLeDiff,Int.reduceLT,Int.reduceLE,↓u_setN]
  refine (c30 Ty hT).Q ?_
  simp only [W2,W4,↓vcPre,↓z0,↓reduceIte,vcPost,vcStd,Nat.reduceEqDiff,reduceCtorEq,Nat.reduceAdd,Nat.reduceLeDiff,Int.reduceLT,Int.reduceLE,↓u_setN]
  refine (c43 p1 p2 M).Q ?_
  simp only [↓vcPre,↓z0,↓reduceIte,vcPost,vcStd,Nat.reduceEqDiff,reduceCtorEq,Nat.reduceAdd,Nat.reduceLeDiff,Int.reduceLT,Int.reduceLE,↓u_setN]
  refine NextQ.to (2,W) rfl (Store.sub_refl _) (by simp only;omega) ⟨by simp only;omega,Store.sub_trans m2 (Store.sub_trans sU sW),(Store.sub_trans sU sW) _ _ m3⟩
end Go.Am
namespace Go.Am
open Go.Proofs Go.Sort
theorem k7a:decA false [64,1,1,3] = .error (6,[64,1,1,3]):=by
 have e1:chunk [64,1,1,3]=some ⟨64,1,[3],[64,1,1,3],[]⟩:=by rfl
 have h:decL false 4 [64,1,1,3] zeroAt [] [] = .error (6,[64,1,1,3]):=by
  simp only [decL,e1];rfl
 simp only [decA]
 rw [show ([64,1,1,3]:List Int).length=4 from rfl,h]
theorem k7b:∃ a,decA false [64,1,1,2] = .ok (a,[1])∧a.org=2:=by
 have e1:chunk [64,1,1,2]=some ⟨64,1,[2],[64,1,1,2],[]⟩:=by rfl
 have h:decL false 4 [64,1,1,2] zeroAt [] [] = .ok ({ zeroAt with org:=2 },[1]):=by
  simp only [decL,e1];rfl
 refine ⟨canonA { zeroAt with org:=2 },?_,rfl⟩
 simp only [decA]
 rw [show ([64,1,1,2]:List Int).length=4 from rfl,h]
 simp
set_option maxHeartbeats 1000000 in
theorem c17:Pur Tryz.prog 17 [] (.bool true):=by
 refine zp Tst.F17 (by simp [Tst.F17,Fn.mkX]) fun σ => ?_
 simp only [Tst.F17,Fn.mkX,Tst.b17]
 rw [show [AV.int .i64 0,.nils,.int .u32 0,.bool false,.int .u32 0,.bool false,.int .u32 0,.bool false,.nils]=zC from rfl,show [AV.int .i64 0,.int .i64 0,.nils]=zN from rfl]
 obtain ⟨b2,hb2,hbo⟩:=k7b
 have e9:∀ x:At,x.c.length=9:=fun _=>rfl
 have spZ:∀ x:At,splice 0 x.c zC=some x.c:=fun _=>rfl
 have szn:∀ x y z:AV,splice 0 [x,y,z] zN=some [x,y,z]:=fun _ _ _=>rfl
 simp only [wz,↓vcPre,↓z0,↓reduceIte,vcPost,vcStd,Nat.reduceEqDiff,reduceCtorEq,Nat.reduceAdd,Nat.reduceLeDiff,Int.reduceLT,Int.reduceLE,↓u_setN]
 refine AllocQ.i0 fun q1 hq1 => ?_
 simp only [↓vcPre,↓z0,↓reduceIte,vcPost,vcStd,Nat.reduceEqDiff,reduceCtorEq,Nat.reduceAdd,Nat.reduceLeDiff,Int.reduceLT,Int.reduceLE,↓u_setN]
 have sT:=Store.sub_set σ q1 (.arr 1 [[.int .u8 64],[.int .u8 1],[.int .u8 1],[.int .u8 3]]) hq1
 have T1:(σ.set q1 (.arr 1 [[.int .u8 64],[.int .u8 1],[.int .u8 1],[.int .u8 3]])) q1=some (.arr 1 (([64,1,1,3]:List Int).map cB)):=Store.set_same _ _ _
 generalize σ.set q1 (.arr 1 [[.int .u8 64],[.int .u8 1],[.int .u8 1],[.int .u8 3]])=T at sT T1 ⊢
 have u3:U8s [64,1,1,3]:=by intro x hx;simp only [List.mem_cons,List.not_mem_nil,or_false] at hx;omega
 have u2:U8s [64,1,1,2]:=by intro x hx;simp only [List.mem_cons,List.not_mem_nil,or_false] at hx;omega
 have D1:=s28 (Rd.os T1) (by simp) u3 false
 rw [k7a] at D1
 refine D1.Q ?_
 rintro r t ⟨rfl,rfl⟩
 simp only [outD]
 simp only [↓vcPre,↓z0,↓reduceIte,vcPost,vcStd,Nat.reduceEqDiff,reduceCtorEq,Nat.reduceAdd,Nat.reduceLeDiff,Int.reduceLT,Int.reduceLE,↓u_setN]
 refine AllocQ.i0 fun p1 hp1 => ?_
 simp only [↓vcPre,↓z0,↓reduceIte,vcPost,vcStd,Nat.reduceEqDiff,reduceCtorEq,Nat.reduceAdd,Nat.reduceLeDiff,Int.reduceLT,Int.reduceLE,↓u_setN]
 refine AllocQ.i1 fun p3 h31 h13 hp3 => ?_
 simp only [h31,h13,e9,spZ,szn,↓vcPre,↓z0,↓reduceIte,vcPost,vcStd,Nat.reduceEqDiff,reduceCtorEq,Nat.reduceAdd,Nat.reduceLeDiff,Int.reduceLT,Int.reduceLE,↓u_setN]
 have sU:Store.sub t ((((t.set p1 (.box zC)).set p3 (.box zN)).set p1 (.box zeroAt.c)).set p3 (.box [.int .i64 3,.int .i64 6,.sl 1 (([64,1,1,3]:List Int).map cB)])):=za (za (zo hp1 hp3 h31) hp1) hp3
 have U3:((((t.set p1 (.box zC)).set p3 (.box zN)).set p1 (.box zeroAt.c)).set p3 (.box [.int .i64 3,.int .i64 6,.sl 1 (([64,1,1,3]:List Int).map cB)])) p3=some (.box [.int .i64 3,.int .i64 6,.sl 1 (([64,1,1,3]:List Int).map cB)]):=Store.set_same _ _ _
 generalize ((((t.set p1 (.box zC)).set p3 (.box zN)).set p1 (.box zeroAt.c)).set p3 (.box [.int .i64 3,.int .i64 6,.sl 1 (([64,1,1,3]:List Int).map cB)]))=U at sU U3 ⊢
 simp only [wz,↓vcPre,↓z0,↓reduceIte,vcPost,vcStd,Nat.reduceEqDiff,reduceCtorEq,Nat.reduceAdd,Nat.reduceLeDiff,Int.reduceLT,Int.reduceLE,↓u_setN]
 refine AllocQ.i0 fun q2 hq2 => ?_
 simp only [↓vcPre,↓z0,↓reduceIte,vcPost,vcStd,Nat.reduceEqDiff,reduceCtorEq,Nat.reduceAdd,Nat.reduceLeDiff,Int.reduceLT,Int.reduceLE,↓u_setN]
 have sV:=Store.sub_set U q2 (.arr 1 [[.int .u8 64],[.int .u8 1],[.int .u8 1],[.int .u8 2]]) hq2
 have V1:(U.set q2 (.arr 1 [[.int .u8 64],[.int .u8 1],[.int .u8 1],[.int .u8 2]])) q2=some (.arr 1 (([64,1,1,2]:List Int).map cB)):=Store.set_same _ _ _
 generalize U.set q2 (.arr 1 [[.int .u8 64],[.int .u8 1],[.int .u8 1],[.int .u8 2]])=V at sV V1 ⊢
 have D2:=s28 (Rd.os V1) (by simp) u2 false
 rw [hb2] at D2
 refine D2.Q ?_
 rintro r w ⟨rfl,rfl⟩
 simp only [outD]
 simp only [↓vcPre,↓z0,↓reduceIte,vcPost,vcStd,Nat.reduceEqDiff,reduceCtorEq,Nat.reduceAdd,Nat.reduceLeDiff,Int.reduceLT,Int.reduceLE,↓u_setN]
 refine AllocQ.i0 fun p4 hp4 => ?_
 simp only [↓vcPre,↓z0,↓reduceIte,vcPost,vcStd,Nat.reduceEqDiff,reduceCtorEq,Nat.reduceAdd,Nat.reduceLeDiff,Int.reduceLT,Int.reduceLE,↓u_setN]
 refine AllocQ.i1 fun p6 h64 h46 hp6 => ?_
 simp only [h64,h46,e9,spZ,szn,↓vcPre,↓z0,↓reduceIte,vcPost,vcStd,Nat.reduceEqDiff,reduceCtorEq,Nat.reduceAdd,Nat.reduceLeDiff,Int.reduceLT,Int.reduceLE,↓u_setN]
 have sW:Store.sub w ((((w.set p4 (.box zC)).set p6 (.box zN)).set p4 (.box b2.c)).set p6 (.box [.int .i64 0,.int .i64 0,.sl 1 []])):=za (za (zo hp4 hp6 h64) hp4) hp6
 have W6:((((w.set p4 (.box zC)).set p6 (.box zN)).set p4 (.box b2.c)).set p6 (.box [.int .i64 0,.int .i64 0,.sl 1 []])) p6=some (.box [.int .i64 0,.int .i64 0,.sl 1 []]):=Store.set_same _ _ _
 generalize ((((w.set p4 (.box zC)).set p6 (.box zN)).set p4 (.box b2.c)).set p6 (.box [.int .i64 0,.int .i64 0,.sl 1 []]))=W at sW W6 ⊢
 have W3:=sW _ _ (sV _ _ U3)
 have hσW:Store.sub σ W:=Store.sub_trans sT (Store.sub_trans sU (Store.sub_trans sV sW))
 have hx:∀ s:Store,Rd 1 s (([64,1,1,3]:List Int).map cB) (.sl 1 (([64,1,1,3]:List Int).map cB)):=fun _=>Rd.sl
 have l1:=z08 (hx W) (Store.sub_refl _)
 have hby:(byL [64,1,1,3]).toArray = #[64,1,1,3]:=rfl
 rw [hby] at l1
 have eqq:pv (.eqs false) [.str ⟨#[64,1,1,3]⟩,.str ⟨#[64,1,1,3]⟩]=some (.bool true):=by simp [pv,pEqs]
 have tk:List.take 1 b2.c=[.int .i64 2]:=by show [AV.int .i64 b2.org]=_;rw [hbo]
 simp only [W3,l1,eqq,tk,↓vcPre,↓z0,↓reduceIte,vcPost,vcStd,Nat.reduceEqDiff,reduceCtorEq,Nat.reduceAdd,Nat.reduceLeDiff,Int.reduceLT,Int.reduceLE,↓u_setN]
 refine AllocQ.i0 fun d hd => ?_
 simp only [↓vcPre,↓z0,↓reduceIte,vcPost,vcStd,Nat.reduceEqDiff,reduceCtorEq,Nat.reduceAdd,Nat.reduceLeDiff,Int.reduceLT,Int.reduceLE,↓u_setN]
 have hD:=Store.sub_set W d (.arr 1 [[.int .i64 1]]) hd
 have Dd:(W.set d (.arr 1 [[.int .i64 1]])) d=some (.arr 1 [[.int .i64 1]]):=Store.set_same _ _ _
 have D6:=hD _ _ W6
 have hsame:ACalls Tryz.prog 30 [.sl 1 (([1]:List Int).map cI),.os d 1 0 1] (W.set d (.arr 1 [[.int .i64 1]])) (fun r s=>r = .bool true∧Store.sub W s):=by
  refine ACalls.weakArgs (c30 [1] (by simp) W).1 (WeakL.freeze 1 rfl Dd (by simp) (WeakL.pure ?_))
  refine (c30 [1] (by simp) _).mono fun r s ⟨x,y⟩=>⟨by first | exact y | exact x,by subst_vars;exact sub_del hD hd⟩
 refine hsame.Q ?_
 rintro r y ⟨rfl,hy⟩
 have Y6:=hy _ _ W6
 simp only [Y6,↓vcPre,↓z0,↓reduceIte,vcPost,vcStd,Nat.reduceEqDiff,reduceCtorEq,Nat.reduceAdd,Nat.reduceLeDiff,Int.reduceLT,Int.reduceLE,↓u_setN]
 refine (c31 16777216).Q ?_
 rw [show decide (goodN 16777216)=true by decide]
 simp only [↓vcPre,↓z0,↓reduceIte,vcPost,vcStd,Nat.reduceEqDiff,reduceCtorEq,Nat.reduceAdd,Nat.reduceLeDiff,Int.reduceLT,Int.reduceLE,↓u_setN]
 refine (c31 2130706433).Q ?_
 rw [show decide (goodN 2130706433)=false by decide]
 simp only [↓vcPre,↓z0,↓reduceIte,vcPost,vcStd,Nat.reduceEqDiff,reduceCtorEq,Nat.reduceAdd,Nat.reduceLeDiff,Int.reduceLT,Int.reduceLE,↓u_setN]
 exact Store.sub_trans hσW hy
end Go.Am
namespace Go.Am
open Go.Proofs Go.Sort
theorem Own.addG {esz e2:Nat} {τ s s':Store} {L M:List (List AV)} {v w:AV} (h:Own esz τ L v s) (hτ:Store.sub τ s) (hs:Store.sub s s') (hw:Own e2 s M w s'):∃ τ',Store.sub τ τ'∧Store.sub τ' s'∧Own esz τ' L v s'∧Rd e2 τ' M w:=by
 rcases hw with ⟨rfl,rfl⟩ | ⟨g,rfl,hg,hh⟩
 ·exact ⟨τ,Store.sub_refl _,Store.sub_trans hτ hs,h.mono hs,Rd.nils⟩
 ·refine ⟨τ.set g (.arr e2 M),Store.sub_set _ _ _ (zk hτ hg),fun j o hj => ?_,?_,Rd.os (Store.set_same _ _ _)⟩
  ·by_cases e:j=g
   ·subst e;rw [Store.set_same] at hj;cases hj;exact hh
   ·rw [Store.set_ne _ _ e] at hj;exact hs _ _ (hτ _ _ hj)
  ·rcases h with h | ⟨k,a,b,c⟩
   ·exact .inl h
   ·have hkg:¬ k=g:=fun e=>by rw [e,hg] at c;cases c
    exact .inr ⟨k,a,by rw [Store.set_ne _ _ hkg];exact b,hs _ _ c⟩
theorem z0k (a:At) (h8:a.cms.length≤100000) {T s:Store} {i:Nat} {L:List Int} {v:AV} (hTi:T i=some (boxC a)) (hs:Store.sub T s) (h:Own 1 T (L.map cB) v s) (hL:L.length≤9000000) {n r:Env→Store→Prop} {x:Nat→Env→Store→Prop}
 (hr:∀ v' s',Store.sub T s'→Own 1 T ((L++(if a.cms=[] then [] else oneA 192 8 (encW a.cms))).map cB) v' s'→r [(2,v')] s'):bwp Tryz.prog Tsj.t11_39 [(1,.ptr i 0),(3,v)] s n r x:=by
 simp only [Tsj.t11_39]
 have hi:=hs _ _ hTi
 simp only [hi,boxC,↓vcPre,↓z0,↓reduceIte,vcPost,vcStd,Nat.reduceEqDiff,reduceCtorEq,Nat.reduceAdd,Nat.reduceLeDiff,Int.reduceLT,Int.reduceLE,↓u_setN]
 have hc:=yk a.cms
 refine ⟨fun c1 => ?_,fun c1 => ?_⟩
 ·obtain ⟨τ1,p1,p2,p3,p4⟩:∃ τ1,Store.sub T τ1∧Store.sub τ1 s∧Own 1 T (L.map cB) v s∧∀ t,Store.sub τ1 t→Own 1 T (L.map cB) v t:=⟨s,hs,Store.sub_refl _,h,fun t ht=>h.mono ht⟩
  refine LoopQ.inv (S:=Nat×AV×Store) (fun q=>[(1,.ptr i 0),(3,v),(4,q.2.1),(5,.int .i64 (q.1:Int))]) (fun q=>q.2.2) (fun q=>q.1≤a.cms.length∧Store.sub s q.2.2∧Own 1 s ((encW (a.cms.take q.1)).map cB) q.2.1 q.2.2) (fun q=>a.cms.length+1 - q.1) (0,.nils,s) rfl (Store.sub_refl _) ⟨by simp only;omega,Store.sub_refl _,by simpa [encW] using Own.nil⟩ ?_
  rintro ⟨k,w,s1⟩ ⟨hk,hs1,ho1⟩
  simp only at hk hs1 ho1
  have hle:=yk (a.cms.take k)
  rw [List.length_take] at hle
  simp only [hs1 _ _ hi,boxC,↓vcPre,↓z0,↓reduceIte,vcPost,vcStd,Nat.reduceEqDiff,reduceCtorEq,Nat.reduceAdd,Nat.reduceLeDiff,Int.reduceLT,Int.reduceLE,↓u_setN]
  refine ⟨fun d1 => ?_,fun d1 => ?_⟩
  ·have ek:IntKind.i64.wrap ((k:Int)+1)=((k+1:Nat):Int):=by rw [zd (by unfold I64;omega)];omega
   refine ⟨d1,by simp [cU],?_⟩
   simp only [cU,↓vcPre,↓z0,↓reduceIte,vcPost,vcStd,Nat.reduceEqDiff,reduceCtorEq,Nat.reduceAdd,Nat.reduceLeDiff,Int.reduceLT,Int.reduceLE,↓u_setN]
   refine (s39 (Rd.own ho1) (by omega) _).Q ?_
   rintro r' s2 ⟨k1,k2⟩
   simp only [↓vcPre,↓z0,↓reduceIte,vcPost,vcStd,Nat.reduceEqDiff,reduceCtorEq,Nat.reduceAdd,Nat.reduceLeDiff,Int.reduceLT,Int.reduceLE,↓u_setN]
   rw [ek]
   refine NextQ.to (k+1,r',s2) rfl (Store.sub_refl _) (by simp only;omega) ⟨by simp only;omega,Store.sub_trans hs1 k1,?_⟩
   simp only
   rw [vc _ _ d1]
   exact k2.weak hs1
  ·have e:a.cms.take k=a.cms:=List.take_of_length_le (by omega)
   rw [e] at ho1
   obtain ⟨τ',q1,q2,q3,q4⟩:=Own.addG h hs hs1 ho1
   refine (s37 q2 q3 q4 (by omega) (by omega) 192 8 (by decide) (by decide)).Q ?_
   rintro r' s2 ⟨k1,k2⟩
   simp only [↓vcPre,↓z0,↓reduceIte,vcPost,vcStd,Nat.reduceEqDiff,reduceCtorEq,Nat.reduceAdd,Nat.reduceLeDiff,Int.reduceLT,Int.reduceLE,↓u_setN]
   have:=hr r' s2 (Store.sub_trans q1 k1)
   rw [if_neg (fun e=>by rw [e] at c1;simp at c1)] at this
   exact this (k2.weak q1)
 ·have:=hr v s hs
  rw [if_pos (List.length_eq_zero_iff.1 (by omega)),List.append_nil] at this
  exact this h
theorem z0j (a:At) (h8:a.cms.length≤100000) {T s:Store} {i:Nat} {L:List Int} {v:AV} (hTi:T i=some (boxC a)) (hs:Store.sub T s) (h:Own 1 T (L.map cB) v s) (hL:L.length≤8000000) {n r:Env→Store→Prop} {x:Nat→Env→Store→Prop}
 (hr:∀ v' s',Store.sub T s'→Own 1 T ((L++(if a.atm then oneA 64 6 [] else [])++(if a.cms=[] then [] else oneA 192 8 (encW a.cms))).map cB) v' s'→r [(2,v')] s'):bwp Tryz.prog Tsj.t11_35 [(1,.ptr i 0),(3,v)] s n r x:=by
 simp only [Tsj.t11_35]
 have hi:=hs _ _ hTi
 cases g:a.atm
 ·simp only [hi,boxC,g,↓vcPre,↓z0,↓reduceIte,vcPost,vcStd,Nat.reduceEqDiff,reduceCtorEq,Nat.reduceAdd,Nat.reduceLeDiff,Int.reduceLT,Int.reduceLE,↓u_setN]
  refine z0k a h8 hTi hs h (by omega) fun v' s' hs' ho' => ?_
  have:=hr v' s' hs'
  rw [g] at this
  exact this (by simpa using ho')
 ·simp only [hi,boxC,g,↓vcPre,↓z0,↓reduceIte,vcPost,vcStd,Nat.reduceEqDiff,reduceCtorEq,Nat.reduceAdd,Nat.reduceLeDiff,Int.reduceLT,Int.reduceLE,↓u_setN]
  refine (s37 hs h (M:=[]) Rd.nils (by omega) (by simp) 64 6 (by decide) (by decide)).Q ?_
  rintro r' s1 ⟨k1,k2⟩
  simp only [↓vcPre,↓z0,↓reduceIte,vcPost,vcStd,Nat.reduceEqDiff,reduceCtorEq,Nat.reduceAdd,Nat.reduceLeDiff,Int.reduceLT,Int.reduceLE,↓u_setN]
  refine z0k a h8 hTi k1 k2 (by have:=x5 64 6 [];simp at this ⊢;omega) fun v' s' hs' ho' => ?_
  have:=hr v' s' hs'
  rw [g] at this
  exact this ho'
theorem z0i (a:At) (h8:a.cms.length≤100000) {T s:Store} {i:Nat} {L:List Int} {v:AV} (hTi:T i=some (boxC a)) (hs:Store.sub T s) (h:Own 1 T (L.map cB) v s) (hL:L.length≤7000000) {n r:Env→Store→Prop} {x:Nat→Env→Store→Prop}
 (hr:∀ v' s',Store.sub T s'→Own 1 T ((L++(if a.hp then oneA 64 5 (b4 a.prf) else [])++(if a.atm then oneA 64 6 [] else [])++(if a.cms=[] then [] else oneA 192 8 (encW a.cms))).map cB) v' s'→r [(2,v')] s'):bwp Tryz.prog Tsj.t11_28 [(1,.ptr i 0),(3,v)] s n r x:=by
 simp only [Tsj.t11_28]
 have hi:=hs _ _ hTi
 cases g:a.hp
 ·simp only [hi,boxC,g,↓vcPre,↓z0,↓reduceIte,vcPost,vcStd,Nat.reduceEqDiff,reduceCtorEq,Nat.reduceAdd,Nat.reduceLeDiff,Int.reduceLT,Int.reduceLE,↓u_setN]
  refine z0j a h8 hTi hs h (by omega) fun v' s' hs' ho' => ?_
  have:=hr v' s' hs'
  rw [g] at this
  exact this (by simpa using ho')
 ·have hTi5:=(hs) _ _ hTi
  simp only [hTi5,boxC,g,↓vcPre,↓z0,↓reduceIte,vcPost,vcStd,Nat.reduceEqDiff,reduceCtorEq,Nat.reduceAdd,Nat.reduceLeDiff,Int.reduceLT,Int.reduceLE,↓u_setN]
  refine (s39 (s:=s) (L:=[]) Rd.nils (by simp) a.prf).Q ?_
  rintro r s' ⟨k1,k2⟩
  rw [List.nil_append] at k2
  obtain ⟨τ',q1,q2,q3,q4⟩:=Own.addG h (hs) k1 k2
  simp only [↓vcPre,↓z0,↓reduceIte,vcPost,vcStd,Nat.reduceEqDiff,reduceCtorEq,Nat.reduceAdd,Nat.reduceLeDiff,Int.reduceLT,Int.reduceLE,↓u_setN]
  refine (s37 q2 q3 q4 (by omega) (by rw [yv];omega) 64 5 (by decide) (by decide)).Q ?_
  rintro r s1 ⟨h1,k3⟩
  have h1:=Store.sub_trans q1 h1
  have k3:=Own.weak k3 q1
  simp only [↓vcPre,↓z0,↓reduceIte,vcPost,vcStd,Nat.reduceEqDiff,reduceCtorEq,Nat.reduceAdd,Nat.reduceLeDiff,Int.reduceLT,Int.reduceLE,↓u_setN]
  refine z0j a h8 hTi h1 k3 (by have:=wq 64 5 (b4 a.prf) L;rw [yv] at this;omega) fun v' s' hs' ho' => ?_
  have:=hr v' s' hs'
  rw [g] at this
  exact this ho'
theorem z4n (a:At) (h8:a.cms.length≤100000) {T s:Store} {i:Nat} {L:List Int} {v:AV} (hTi:T i=some (boxC a)) (hs:Store.sub T s) (h:Own 1 T (L.map cB) v s) (hL:L.length≤6000000) {n r:Env→Store→Prop} {x:Nat→Env→Store→Prop}
 (hr:∀ v' s',Store.sub T s'→Own 1 T ((L++(if a.hm then oneA 128 4 (b4 a.med) else [])++(if a.hp then oneA 64 5 (b4 a.prf) else [])++(if a.atm then oneA 64 6 [] else [])++(if a.cms=[] then [] else oneA 192 8 (encW a.cms))).map cB) v' s'→r [(2,v')] s'):bwp Tryz.prog Tsj.t11_21 [(1,.ptr i 0),(3,v)] s n r x:=by
 simp only [Tsj.t11_21]
 have hi:=hs _ _ hTi
 cases g:a.hm
 ·simp only [hi,boxC,g,↓vcPre,↓z0,↓reduceIte,vcPost,vcStd,Nat.reduceEqDiff,reduceCtorEq,Nat.reduceAdd,Nat.reduceLeDiff,Int.reduceLT,Int.reduceLE,↓u_setN]
  refine z0i a h8 hTi hs h (by omega) fun v' s' hs' ho' => ?_
  have:=hr v' s' hs'
  rw [g] at this
  exact this (by simpa using ho')
 ·have hTi4:=(hs) _ _ hTi
  simp only [hTi4,boxC,g,↓vcPre,↓z0,↓reduceIte,vcPost,vcStd,Nat.reduceEqDiff,reduceCtorEq,Nat.reduceAdd,Nat.reduceLeDiff,Int.reduceLT,Int.reduceLE,↓u_setN]
  refine (s39 (s:=s) (L:=[]) Rd.nils (by simp) a.med).Q ?_
  rintro r s' ⟨k1,k2⟩
  rw [List.nil_append] at k2
  obtain ⟨τ',q1,q2,q3,q4⟩:=Own.addG h (hs) k1 k2
  simp only [↓vcPre,↓z0,↓reduceIte,vcPost,vcStd,Nat.reduceEqDiff,reduceCtorEq,Nat.reduceAdd,Nat.reduceLeDiff,Int.reduceLT,Int.reduceLE,↓u_setN]
  refine (s37 q2 q3 q4 (by omega) (by rw [yv];omega) 128 4 (by decide) (by decide)).Q ?_
  rintro r s1 ⟨h1,k3⟩
  have h1:=Store.sub_trans q1 h1
  have k3:=Own.weak k3 q1
  simp only [↓vcPre,↓z0,↓reduceIte,vcPost,vcStd,Nat.reduceEqDiff,reduceCtorEq,Nat.reduceAdd,Nat.reduceLeDiff,Int.reduceLT,Int.reduceLE,↓u_setN]
  refine z0i a h8 hTi h1 k3 (by have:=wq 128 4 (b4 a.med) L;rw [yv] at this;omega) fun v' s' hs' ho' => ?_
  have:=hr v' s' hs'
  rw [g] at this
  exact this ho'
def encOk (a:At):Prop:=a.path.length≤1000∧(∀ s ∈ a.path,s.ls.length≤1000)∧a.cms.length≤1000
theorem z2x:∀ (m:List Seg),(∀ s ∈ m,s.ls.length≤1000)→(encPath m).length≤4002*m.length:=by
 intro m
 induction m with
 | nil=>intro _;simp [encPath]
 | cons s r ih =>
   intro h
   have h1:=ih fun x hx=>h x (by simp [hx])
   have h2:=h s (by simp)
   have h3:=yk s.ls
   simp only [encPath,List.flatMap_cons,List.length_append,encSeg,List.length_cons,List.length_nil] at *
   omega
theorem s11 (a:At) (ha:encOk a) (σ:Store):ACalls Tryz.prog 11 [.agg a.c] σ (fun r s=>Store.sub σ s∧Own 1 σ ((encA a).map cB) r s):=by
 refine zg Tsj.F11 (by simp [Tsj.F11,Fn.mkX]) ?_
 simp only [Tsj.F11,Fn.mkX,Tsj.b11]
 have e9:∀ x:At,x.c.length=9:=fun _=>rfl
 obtain ⟨a1,a2,a3⟩:=ha
 have hpl:=z2x a.path a2
 simp only [↓vcPre,↓z0,↓reduceIte,vcPost,vcStd,Nat.reduceEqDiff,reduceCtorEq,Nat.reduceAdd,Nat.reduceLeDiff,Int.reduceLT,Int.reduceLE,↓u_setN]
 refine AllocQ.i0 fun i hi => ?_
 have hsb:=Store.sub_set σ i (.box a.c) hi
 have hTi:(σ.set i (.box a.c)) i=some (boxC a):=Store.set_same _ _ _
 change bops _ _ _ (σ.set i (.box a.c)) _
 generalize σ.set i (.box a.c)=T at hsb hTi ⊢
 simp only [hTi,boxC,↓vcPre,↓z0,↓reduceIte,vcPost,vcStd,Nat.reduceEqDiff,reduceCtorEq,Nat.reduceAdd,Nat.reduceLeDiff,Int.reduceLT,Int.reduceLE,↓u_setN]
 refine AllocQ.i0 fun b hb => ?_
 simp only [↓vcPre,↓z0,↓reduceIte,vcPost,vcStd,Nat.reduceEqDiff,reduceCtorEq,Nat.reduceAdd,Nat.reduceLeDiff,Int.reduceLT,Int.reduceLE,↓u_setN]
 have hTb:=Store.sub_set T b (.arr 1 [cB (IntKind.u8.wrap a.org)]) hb
 refine (s37 (τ:=T.set b (.arr 1 [cB (IntKind.u8.wrap a.org)])) (L:=[]) (M:=[IntKind.u8.wrap a.org]) (Store.sub_refl _) Own.nil (Rd.os (Store.set_same _ _ _)) (by simp) (by simp) 64 1 (by decide) (by decide)).Q ?_
 rintro r s1 ⟨h1,m1⟩
 have h1:=Store.sub_trans hTb h1
 have m1:=Own.weak m1 hTb
 have l1:=wq 64 1 [IntKind.u8.wrap a.org] []
 simp only [List.length_nil,List.length_cons] at l1
 simp only [h1 _ _ hTi,boxC,↓vcPre,↓z0,↓reduceIte,vcPost,vcStd,Nat.reduceEqDiff,reduceCtorEq,Nat.reduceAdd,Nat.reduceLeDiff,Int.reduceLT,Int.reduceLE,↓u_setN]
 refine (c38 a.path (by omega) a2).Q ?_
 simp only [↓vcPre,↓z0,↓reduceIte,vcPost,vcStd,Nat.reduceEqDiff,reduceCtorEq,Nat.reduceAdd,Nat.reduceLeDiff,Int.reduceLT,Int.reduceLE,↓u_setN]
 refine (s37 h1 m1 (Rd.sl (L:=(encPath a.path).map cB)) (by omega) (by omega) 64 2 (by decide) (by decide)).Q ?_
 rintro r s2 ⟨h2,m2⟩
 have l2:=wq 64 2 (encPath a.path) ([]++oneA 64 1 [IntKind.u8.wrap a.org])
 simp only [↓vcPre,↓z0,↓reduceIte,vcPost,vcStd,Nat.reduceEqDiff,reduceCtorEq,Nat.reduceAdd,Nat.reduceLeDiff,Int.reduceLT,Int.reduceLE,↓u_setN]
 have hTi3:=(h2) _ _ hTi
 simp only [hTi3,boxC,e9,↓vcPre,↓z0,↓reduceIte,vcPost,vcStd,Nat.reduceEqDiff,reduceCtorEq,Nat.reduceAdd,Nat.reduceLeDiff,Int.reduceLT,Int.reduceLE,↓u_setN]
 refine (s39 (s:=s2) (L:=[]) Rd.nils (by simp) a.nxt).Q ?_
 rintro r s' ⟨k1,k2⟩
 rw [List.nil_append] at k2
 obtain ⟨τ',q1,q2,q3,q4⟩:=Own.addG m2 (h2) k1 k2
 simp only [↓vcPre,↓z0,↓reduceIte,vcPost,vcStd,Nat.reduceEqDiff,reduceCtorEq,Nat.reduceAdd,Nat.reduceLeDiff,Int.reduceLT,Int.reduceLE,↓u_setN]
 refine (s37 q2 q3 q4 (by omega) (by rw [yv];omega) 64 3 (by decide) (by decide)).Q ?_
 rintro r s3 ⟨h1,k3⟩
 have h1:=Store.sub_trans q1 h1
 have k3:=Own.weak k3 q1
 have l3:=wq 64 3 (b4 a.nxt) ([]++oneA 64 1 [IntKind.u8.wrap a.org]++oneA 64 2 (encPath a.path))
 rw [yv] at l3
 simp only [↓vcPre,↓z0,↓reduceIte,vcPost,vcStd,Nat.reduceEqDiff,reduceCtorEq,Nat.reduceAdd,Nat.reduceLeDiff,Int.reduceLT,Int.reduceLE,↓u_setN]
 refine z4n a (by omega) hTi h1 k3 (by omega) fun v' s' hs' ho' => ?_
 refine EndQ.to s' _ rfl (Store.sub_refl _) ⟨Store.sub_trans hsb hs',?_⟩
 have:=ho'.weak hsb
 simpa [encA,u8w] using this
end Go.Am
namespace Go.Am
open Go.Proofs Go.Sort
theorem z3e (l:List Int):U8s (encW l):=by
 intro x hx
 simp only [encW,List.mem_flatMap] at hx
 obtain ⟨n,_,h⟩:=hx
 exact z1p n x h
theorem z47 (l:List Seg):U8s (encPath l):=by
 intro x hx
 simp only [encPath,List.mem_flatMap] at hx
 obtain ⟨s,_,h⟩:=hx
 simp only [encSeg,List.mem_append,List.mem_cons,List.not_mem_nil,or_false] at h
 rcases h with (rfl | rfl) | h
 ·omega
 ·omega
 ·exact z3e _ x h
theorem xq {fl k:Int} {v:List Int} (h1:0≤fl∧fl<240) (h2:0≤k∧k<256) (h3:U8s v):U8s (oneA fl k v):=by
 intro x hx
 unfold oneA at hx
 rcases List.mem_append.1 hx with h | h
 ·split at h
  ·simp only [List.mem_cons,List.not_mem_nil,or_false] at h;omega
  ·simp only [List.mem_cons,List.not_mem_nil,or_false] at h;omega
 ·exact h3 x h
theorem z83 (a:At):U8s (encA a):=by
 have e1:U8s (oneA 64 1 [a.org % 256]):=xq (by omega) (by omega) fun x hx=>by simp only [List.mem_singleton] at hx;omega
 have e2:=xq (fl:=64) (k:=2) (by omega) (by omega) (z47 a.path)
 have e3:=xq (fl:=64) (k:=3) (by omega) (by omega) (z1p a.nxt)
 have e4:U8s (if a.hm then oneA 128 4 (b4 a.med) else []):=by
  split
  ·exact xq (by omega) (by omega) (z1p _)
  ·intro x hx;simp at hx
 have e5:U8s (if a.hp then oneA 64 5 (b4 a.prf) else []):=by
  split
  ·exact xq (by omega) (by omega) (z1p _)
  ·intro x hx;simp at hx
 have e6:U8s (if a.atm then oneA 64 6 [] else []):=by
  split
  ·exact xq (by omega) (by omega) fun x hx=>by simp at hx
  ·intro x hx;simp at hx
 have e8:U8s (if a.cms=[] then [] else oneA 192 8 (encW a.cms)):=by
  split
  ·intro x hx;simp at hx
  ·exact xq (by omega) (by omega) (z3e _)
 unfold encA
 exact (((((e1.append e2).append e3).append e4).append e5).append e6).append e8
end Go.Am
namespace Go.Am.Tsu
open Go.Proofs Go.Am.B
def t3_71:BC:=z [m 71 11,g 72 15 [.t 71],m 73 72,⟨some 74,some (73,true),.loud (.call 17),[]⟩,⟨some 75,none,.pick,[.t 73,.t 74,.c (.bool false)]⟩,m 10 75] [10] .ret
def t3_45:BC:=z [m 45 2,m 46 11,u 47 .len 46,c 48 .sub 47 1,g 49 16 [.t 45,.c (.int .i64 0),.t 48],m 12 49] [3,4,11,12] (.seq (z [m 50 4,g 51 16 [.t 50,.c (.int .i64 0),.c (.int .i64 2)]] [3,11,12,51] (.block 0 (z [c 56 .eql 51 0,m 55 56] [3,11,12,51,55] (.cond (.t 55) (.ops [m 57 11,m 58 12,m 59 11,m 60 12,x 61 1 59 60,l 62 1 61,m 63 3,b 64 .xor 62 63,x 65 1 57 58,s 1 65 64] [11]) (z [c 67 .eql 51 1,m 66 67] [11,12,66] (.cond (.t 66) (.ops [m 68 11,m 69 12,p 70 (.slice 1 false true) [.t 68,.t 69],m 11 70] [11]) (.ops [m 52 11,m 53 11,⟨some 54,none,.loud (.app 1 1),[.t 52,.t 53]⟩,m 11 54] [11]))))))) t3_71)
def b3:BC:=z [⟨some 5,none,.alloc (.box),[.t 0]⟩,k 10 (.bool false)] [1,2,3,4,5] (z [⟨some 13,none,.load (.ld 9 true),[.t 5]⟩,g 14 13 [.t 13],g 15 12 [.t 14],g 16 11 [.t 15],m 11 16] [1,2,3,4,11] (z [m 17 1,g 18 14 [.t 17,.c (.int .i64 100)],m 1 18] [1,2,3,4,11] (.seq (z [m 19 11,g 20 15 [.t 19],u 21 .not 20,m 22 21,⟨some 23,some (22,false),.pure (.mov),[.t 1]⟩,⟨some 24,some (22,false),.loud (.call 15),[.t 23]⟩,⟨some 25,some (22,false),.pure (.not),[.t 24]⟩,⟨some 26,none,.pick,[.t 22,.c (.bool true),.t 25]⟩,m 27 26,⟨some 28,some (27,false),.alloc (.mksl 1 0),[]⟩,⟨some 29,some (27,false),.pure (.mov),[.t 11]⟩,⟨some 30,some (27,false),.loud (.app 1 1),[.t 28,.t 29]⟩,⟨some 31,some (27,false),.pure (.mov),[.t 1]⟩,⟨some 32,some (27,false),.loud (.app 1 1),[.t 30,.t 31]⟩,⟨some 33,some (27,false),.loud (.call 15),[.t 32]⟩,⟨some 34,some (27,false),.pure (.not),[.t 33]⟩,⟨some 35,none,.pick,[.t 27,.c (.bool true),.t 34]⟩,m 36 35,⟨some 37,some (36,false),.alloc (.mksl 1 0),[]⟩,⟨some 38,some (36,false),.pure (.mov),[.t 1]⟩,⟨some 39,some (36,false),.loud (.app 1 1),[.t 37,.t 38]⟩,⟨some 40,some (36,false),.pure (.mov),[.t 11]⟩,⟨some 41,some (36,false),.loud (.app 1 1),[.t 39,.t 40]⟩,⟨some 42,some (36,false),.loud (.call 15),[.t 41]⟩,⟨some 43,some (36,false),.pure (.not),[.t 42]⟩,⟨some 44,none,.pick,[.t 36,.c (.bool true),.t 43]⟩] [2,3,4,11,44] (.cond (.t 44) (z [k 10 (.bool false)] [10] .ret) .skip)) t3_45)))
def F3:Fn Tryz.prog 3:=Fn.mkX false b3 [.t 10] 76 Tryz.f3 _ Tryz.func3 (by decide) rfl Tryz.ntmps3 (by kernel_rfl) (by kernel_rfl)
end Go.Am.Tsu
namespace Go.Am
open Go.Proofs Go.Sort
theorem z3v:[AV.int .i64 0,.nils,.int .u32 0,.bool false,.int .u32 0,.bool false,.int .u32 0,.bool false,.nils]=zC:=rfl
theorem encOk.ok {a:At} (h:encOk a):a.ok:=⟨by have:=h.1;omega,fun s hs=>by have:=h.2.1 s hs;show s.ls.length≤_;omega,by have:=h.2.2;omega⟩
end Go.Am
namespace Go.Am.Tsn
open Go.Proofs Go.Am.B
def t33_18:BC:=z [⟨some 18,none,.load (.ld 9 true),[.t 2]⟩,⟨some 20,none,.load (.ld 9 true),[.t 2]⟩,⟨some 19,none,.qcall 61,[.t 18]⟩,⟨some 21,none,.qcall 74,[.t 20]⟩,p 22 (.eqb false) [.t 19,.t 21],m 23 22,⟨some 24,some (23,true),.load (.ld 9 true),[.t 2]⟩,⟨some 26,some (23,true),.load (.ld 9 true),[.t 2]⟩,⟨some 25,some (23,true),.qcall 72,[.t 24]⟩,⟨some 27,some (23,true),.qcall 41,[.t 26]⟩,⟨some 28,some (23,true),.qcall 26,[.t 25,.t 27]⟩,⟨some 29,none,.pick,[.t 23,.t 28,.c (.bool false)]⟩,m 30 29,⟨some 31,some (30,true),.load (.ld 9 true),[.t 2]⟩,⟨some 32,some (30,true),.load (.ld 9 true),[.t 3]⟩,⟨some 34,some (30,true),.load (.ld 9 true),[.t 2]⟩,⟨some 35,some (30,true),.load (.ld 9 true),[.t 3]⟩,⟨some 33,some (30,true),.qcall 29,[.t 31,.t 32]⟩,⟨some 36,some (30,true),.qcall 75,[.t 34,.t 35]⟩,⟨some 37,some (30,true),.pure (.bin .eql),[.t 36,.c (.int .i64 0)]⟩,⟨some 38,some (30,true),.pure (.eqb false),[.t 33,.t 37]⟩,⟨some 39,none,.pick,[.t 30,.t 38,.c (.bool false)]⟩,m 40 39,⟨some 41,some (40,true),.load (.ld 9 true),[.t 2]⟩,⟨some 42,some (40,true),.load (.ld 9 true),[.t 3]⟩,⟨some 44,some (40,true),.load (.ld 9 true),[.t 2]⟩,⟨some 45,some (40,true),.load (.ld 9 true),[.t 3]⟩,⟨some 43,some (40,true),.qcall 76,[.t 41,.t 42]⟩,⟨some 46,some (40,true),.qcall 75,[.t 44,.t 45]⟩,⟨some 47,some (40,true),.pure (.bin .lss),[.t 46,.c (.int .i64 0)]⟩,⟨some 48,some (40,true),.pure (.eqb false),[.t 43,.t 47]⟩,⟨some 49,none,.pick,[.t 40,.t 48,.c (.bool false)]⟩,m 50 49,⟨some 51,some (50,true),.pure (.mov),[.t 5]⟩,⟨some 53,some (50,true),.pure (.mov),[.t 8]⟩,⟨some 52,some (50,true),.load (.str),[.t 51]⟩,⟨some 54,some (50,true),.load (.str),[.t 53]⟩,⟨some 55,some (50,true),.pure (.eqs false),[.t 52,.t 54]⟩,⟨some 56,none,.pick,[.t 50,.t 55,.c (.bool false)]⟩,m 57 56,⟨some 58,some (57,true),.pure (.mov),[.t 6]⟩,⟨some 59,some (57,true),.pure (.mov),[.t 7]⟩,⟨some 60,some (57,true),.pure (.bin .eql),[.t 58,.t 59]⟩,⟨some 61,none,.pick,[.t 57,.t 60,.c (.bool false)]⟩,m 4 61] [4] .ret
def b33:BC:=z [⟨some 2,none,.alloc (.box),[.t 0]⟩,⟨some 3,none,.alloc (.box),[.t 1]⟩,k 4 (.bool false)] [2,3] (z [⟨some 10,none,.load (.ld 9 true),[.t 2]⟩,g 11 27 [.t 10],m 9 11,e 12 0 9,e 13 1 9,m 5 12,m 6 13] [2,3,5,6] (z [j 7 0] [2,3,5,6,7] (z [k 8 .nils] [2,3,5,6,7,8] (.seq (z [⟨some 14,none,.load (.ld 9 true),[.t 2]⟩,g 15 74 [.t 14]] [2,3,5,6,7,8,15] (.cond (.t 15) (.ops [⟨some 16,none,.load (.ld 9 true),[.t 2]⟩,g 17 11 [.t 16],m 8 17] [2,3,5,6,7,8]) (.ops [j 7 12] [2,3,5,6,7,8]))) t33_18))))
def F33:Fn Tryz.prog 33:=Fn.mkX false b33 [.t 4] 62 Tryz.f33 _ Tryz.func33 (by decide) rfl Tryz.ntmps33 (by kernel_rfl) (by kernel_rfl)
end Go.Am.Tsn
namespace Go.Am
open Go.Proofs Go.Sort
set_option maxHeartbeats 600000 in
theorem c33 (a b:At) (ha:a.ok) (hb:b.ok) (he:encOk a):Pur Tryz.prog 33 [.agg a.c,.agg b.c] (.bool true):=by
 refine zp Tsn.F33 (by simp [Tsn.F33,Fn.mkX]) fun σ => ?_
 simp only [Tsn.F33,Fn.mkX,Tsn.b33]
 have e9:∀ x:At,x.c.length=9:=fun _=>rfl
 have t9:∀ x:At,List.take 9 x.c=x.c:=fun _=>rfl
 simp only [↓vcPre,↓z0,↓reduceIte,vcPost,vcStd,Nat.reduceEqDiff,reduceCtorEq,Nat.reduceAdd,Nat.reduceLeDiff,Int.reduceLT,Int.reduceLE,↓u_setN]
 refine AllocQ.i0 fun i hi => ?_
 simp only [↓vcPre,↓z0,↓reduceIte,vcPost,vcStd,Nat.reduceEqDiff,reduceCtorEq,Nat.reduceAdd,Nat.reduceLeDiff,Int.reduceLT,Int.reduceLE,↓u_setN]
 refine AllocQ.i1 fun j hj1 hj2 hj => ?_
 have hs2:=zo (o:=Obj.box a.c) (p:=Obj.box b.c) hi hj hj1
 have hTi:((σ.set i (.box a.c)).set j (.box b.c)) i=some (.box a.c):=by rw [Store.set_ne _ _ hj2,Store.set_same]
 have hTj:((σ.set i (.box a.c)).set j (.box b.c)) j=some (.box b.c):=Store.set_same _ _ _
 change bops _ _ _ ((σ.set i (.box a.c)).set j (.box b.c)) _
 generalize (σ.set i (.box a.c)).set j (.box b.c)=T at hs2 hTi hTj ⊢
 simp only [hTi,hTj,e9,t9,Nat.le_refl,↓vcPre,↓z0,↓reduceIte,vcPost,vcStd,Nat.reduceEqDiff,reduceCtorEq,Nat.reduceAdd,Nat.reduceLeDiff,Int.reduceLT,Int.reduceLE,↓u_setN]
 refine (c27 a ha).Q ?_
 simp only [hTi,hTj,e9,t9,Nat.le_refl,↓vcPre,↓z0,↓reduceIte,vcPost,vcStd,Nat.reduceEqDiff,reduceCtorEq,Nat.reduceAdd,Nat.reduceLeDiff,Int.reduceLT,Int.reduceLE,↓u_setN]
 refine (c74 a ha).Q ?_
 have hca:=xg ha
 have rest:∀ (s:Store) (y:AV) (n:Int) (L:List Int),Store.sub T s→Rd 1 s (L.map cB) y→(if atRight a then encA a else [])=L→n=(if atRight a then 0 else 12) →
  bwp Tryz.prog Tsn.t33_18 [(2,.ptr i 0),(3,.ptr j 0),(5,.sl 1 ((if atRight a then encA a else []).map cB)),(6,.int .i64 (if atRight a then 0 else 12)),(7,.int .i64 n),(8,y)] s (fun e τ=>e.res τ Tsn.F33.slots=some (.bool true)∧Store.sub σ τ) (fun e τ=>e.res τ Tsn.F33.slots=some (.bool true)∧Store.sub σ τ) (fun _ _ _=>False):=by
  intro s y n L hs hy hL hn
  subst hL hn
  simp only [Tsn.t33_18]
  have hi1:=hs _ _ hTi
  have hj1:=hs _ _ hTj
  have hx:Rd 1 s ((if atRight a then encA a else []).map cB) (.sl 1 ((if atRight a then encA a else []).map cB)):=Rd.sl
  have l1:=z08 hx (Store.sub_refl s)
  have l2:=z08 hy (Store.sub_refl s)
  simp only [hi1,hj1,e9,t9,Nat.le_refl,↓vcPre,↓z0,↓reduceIte,vcPost,vcStd,Nat.reduceEqDiff,reduceCtorEq,Nat.reduceAdd,Nat.reduceLeDiff,Int.reduceLT,Int.reduceLE,↓u_setN]
  refine (c61 a ha).q' ?_
  simp only [↓vcPre,↓z0,↓reduceIte,vcPost,vcStd,Nat.reduceEqDiff,reduceCtorEq,Nat.reduceAdd,Nat.reduceLeDiff,Int.reduceLT,Int.reduceLE,↓u_setN]
  refine (c74 a ha).q' ?_
  simp only [z3w,hi1,hj1,e9,t9,Nat.le_refl,↓vcPre,↓z0,↓reduceIte,vcPost,vcStd,Nat.reduceEqDiff,reduceCtorEq,Nat.reduceAdd,Nat.reduceLeDiff,Int.reduceLT,Int.reduceLE,↓u_setN]
  refine (c72 a ha).q' ?_
  simp only [↓vcPre,↓z0,↓reduceIte,vcPost,vcStd,Nat.reduceEqDiff,reduceCtorEq,Nat.reduceAdd,Nat.reduceLeDiff,Int.reduceLT,Int.reduceLE,↓u_setN]
  refine (c41 a ha).q' ?_
  simp only [↓vcPre,↓z0,↓reduceIte,vcPost,vcStd,Nat.reduceEqDiff,reduceCtorEq,Nat.reduceAdd,Nat.reduceLeDiff,Int.reduceLT,Int.reduceLE,↓u_setN]
  refine (c26 _ _ hca hca).q' ?_
  rw [show decide (canonA a=canonA a)=true by simp]
  simp only [hi1,hj1,e9,t9,Nat.le_refl,↓vcPre,↓z0,↓reduceIte,vcPost,vcStd,Nat.reduceEqDiff,reduceCtorEq,Nat.reduceAdd,Nat.reduceLeDiff,Int.reduceLT,Int.reduceLE,↓u_setN]
  refine (c29 a b ha hb).q' ?_
  simp only [↓vcPre,↓z0,↓reduceIte,vcPost,vcStd,Nat.reduceEqDiff,reduceCtorEq,Nat.reduceAdd,Nat.reduceLeDiff,Int.reduceLT,Int.reduceLE,↓u_setN]
  refine (z6a a b ha hb _).Q ?_
  rintro r s' ⟨rfl,rfl⟩
  refine ⟨Store.sub_refl _,?_⟩
  simp only [z3w,hi1,hj1,e9,t9,Nat.le_refl,↓vcPre,↓z0,↓reduceIte,vcPost,vcStd,Nat.reduceEqDiff,reduceCtorEq,Nat.reduceAdd,Nat.reduceLeDiff,Int.reduceLT,Int.reduceLE,↓u_setN]
  refine (c76 a b ha hb).q' ?_
  simp only [↓vcPre,↓z0,↓reduceIte,vcPost,vcStd,Nat.reduceEqDiff,reduceCtorEq,Nat.reduceAdd,Nat.reduceLeDiff,Int.reduceLT,Int.reduceLE,↓u_setN]
  refine (z6a a b ha hb _).Q ?_
  rintro r s'' ⟨rfl,rfl⟩
  refine ⟨Store.sub_refl _,?_⟩
  simp only [z3w,l1,l2,z7y,zaa,↓vcPre,↓z0,↓reduceIte,vcPost,vcStd,Nat.reduceEqDiff,reduceCtorEq,Nat.reduceAdd,Nat.reduceLeDiff,Int.reduceLT,Int.reduceLE,↓u_setN]
  exact ⟨rfl,Store.sub_trans hs2 hs⟩
 by_cases hr:atRight a
 ·have hd:decide (atRight a)=true:=by simp [hr]
  rw [hd]
  simp only [hTi,hTj,e9,t9,Nat.le_refl,↓vcPre,↓z0,↓reduceIte,vcPost,vcStd,Nat.reduceEqDiff,reduceCtorEq,Nat.reduceAdd,Nat.reduceLeDiff,Int.reduceLT,Int.reduceLE,↓u_setN]
  refine (s11 a he _).Q ?_
  rintro r s ⟨hs,ho⟩
  have:=rest s r 0 (encA a) hs (Rd.own ho) (by rw [if_pos hr]) (by rw [if_pos hr])
  simp only [↓vcPre,↓z0,↓reduceIte,vcPost,vcStd,Nat.reduceEqDiff,reduceCtorEq,Nat.reduceAdd,Nat.reduceLeDiff,Int.reduceLT,Int.reduceLE,↓u_setN]
  exact this
 ·have hd:decide (atRight a)=false:=by simp [hr]
  rw [hd]
  have:=rest T .nils 12 [] (Store.sub_refl _) Rd.nils (by rw [if_neg hr]) (by rw [if_neg hr])
  simp only [↓vcPre,↓z0,↓reduceIte,vcPost,vcStd,Nat.reduceEqDiff,reduceCtorEq,Nat.reduceAdd,Nat.reduceLeDiff,Int.reduceLT,Int.reduceLE,↓u_setN]
  exact this
end Go.Am
namespace Go.Am
theorem Sim.obj {G:Gh} {σ:Store} {w:World} (hs:Sim G σ w) {p:Nat} {o o':Obj} (hp:σ p=some o) (h:∀ b base,G.ρ p=some (b,base)→ORel G w b base o→ORel G w b base o') :
 Sim G (σ.set p o') w∧Ext G σ w G (σ.set p o') w:=by
 have hset:∀ i oi,(σ.set p o') i=some oi→∃ oj,σ i=some oj:=fun i oi h=>by
  by_cases hi:i=p
  ·subst hi;exact ⟨o,hp⟩
  ·rw [Store.set_ne _ _ hi] at h;exact ⟨oi,h⟩
 refine ⟨{ lt:=hs.lt,fin:=hs.fin,blk:=hs.blk,used := ?_,inj := ?_,apart := ?_ },{ Ext.refl G σ w with newOwn := ?_,newId := ?_ }⟩
 ·intro i oi hi
  by_cases e:i=p
  ·subst e
   rw [Store.set_same] at hi;cases hi
   obtain ⟨c,bi,h2,h3⟩:=hs.used i _ hp
   exact ⟨c,bi,h2,h c bi h2 h3⟩
  ·rw [Store.set_ne _ _ e] at hi;exact hs.used i oi hi
 ·intro i j oi oj b bi bj h1 h2
  obtain ⟨a1,k1⟩:=hset i oi h1
  obtain ⟨a2,k2⟩:=hset j oj h2
  exact hs.inj i j a1 a2 b bi bj k1 k2
 ·intro i oi b bi h1
  obtain ⟨a1,k1⟩:=hset i oi h1
  exact hs.apart i a1 b bi k1
 ·rintro c ⟨i,oi,bi,h1,h2⟩
  obtain ⟨a1,k1⟩:=hset i oi h1
  exact .inl ⟨i,a1,bi,k1,h2⟩
 ·intro i oi h1;exact .inl (hset i oi h1)
theorem WeakE.frz {e:Env} {σ:Store} {Q:Env→Store→Prop} (t:Nat) {id esz off len:Nat} {es:List (List AV)} (ht:e.get t=some (.os id esz off len)) (hσ:σ id=some (.arr esz es)) (hle:off+len≤es.length)
 (h:WeakE ((t,.sl esz ((es.drop off).take len))::e) (σ.del id) Q):WeakE e σ Q:=fun G w vs hs hv=>by
 obtain ⟨x,hx,hr⟩:=hv t _ ht
 obtain ⟨G',h1,h2,h3⟩:=we hs hσ hle hr
 obtain ⟨G2,e2,σ2,g1,g2,g3,g4⟩:=h G' w vs h2 (fun u v hu=>by
  simp only [Env.get] at hu
  split at hu
  ·rename_i he;subst he;cases hu;exact ⟨x,hx,h3⟩
  ·obtain ⟨y,hy,hyr⟩:=hv u v hu;exact ⟨y,hy,h1.vrel hs hyr⟩)
 exact ⟨G2,e2,σ2,h1.trans g1,g2,g3,g4⟩
theorem WeakE.pure {e:Env} {σ:Store} {Q:Env→Store→Prop} (h:Q e σ):WeakE e σ Q:=fun G w vs hs hv=>⟨G,e,σ,Ext.refl _ _ _,hs,hv,h⟩
theorem WeakE.slot {e:Env} {σ:Store} {Q:Env→Store→Prop} (t:Nat) {a b:AV} (ht:e.get t=some a) (hab:∀ G w v,VRel G w a v→VRel G w b v) (h:WeakE ((t,b)::e) σ Q):WeakE e σ Q:=fun G w vs hs hv=>by
 obtain ⟨x,hx,hr⟩:=hv t _ ht
 exact h G w vs hs (fun u v hu=>by
  simp only [Env.get] at hu
  split at hu
  ·rename_i he;subst he;cases hu;exact ⟨x,hx,hab _ _ _ hr⟩
  ·exact hv u v hu)
theorem z3o (esz:Nat) (G:Gh) (w:World) (v:Value) (h:VRel G w .nils v):VRel G w (.sl esz []) v:=by
 have e:=h.of_nils;subst e;exact .sl0
theorem WeakE.nil {e:Env} {σ:Store} {Q:Env→Store→Prop} (t esz:Nat) (ht:e.get t=some .nils) (h:WeakE ((t,.sl esz [])::e) σ Q):WeakE e σ Q := .slot t ht (fun G w v h=>z3o esz G w v h) h
theorem WeakE.own {e:Env} {τ σ:Store} {Q:Env→Store→Prop} (t:Nat) {esz:Nat} {L:List (List AV)} {v:AV} (ht:e.get t=some v) (ho:Own esz τ L v σ) (hs:Store.sub τ σ)
 (h:∀ σ',Store.sub τ σ'→Store.sub σ' σ→(∀ i o,σ i=some o→(∀ n,v ≠ .os i esz 0 n)→σ' i=some o)→WeakE ((t,.sl esz L)::e) σ' Q):WeakE e σ Q:=by
 rcases ho with ⟨rfl,rfl⟩ | ⟨g,rfl,h2,h3⟩
 ·exact .nil t esz ht (h σ hs (Store.sub_refl _) fun _ _ h _=>h)
 ·refine .frz t ht h3 (by omega) ?_
  rw [List.drop_zero,List.take_length]
  refine h _ (sub_del hs h2) (fun j o hj => ?_) fun i o hi hn => ?_
  ·simp only [Store.del] at hj;split at hj
   ·cases hj
   ·exact hj
  ·rw [Store.del_ne _ (fun e=>hn _ (by rw [e]))];exact hi
theorem WeakE.frzBox {e:Env} {σ:Store} {Q:Env→Store→Prop} (p k:Nat) {id esz off len:Nat} {es:List (List AV)} {cs:List AV} (hp:σ p=some (.box cs)) (hk:cs[k]? = some (.os id esz off len)) (hσ:σ id=some (.arr esz es)) (hle:off+len≤es.length)
 (h:WeakE e ((σ.del id).set p (.box (cs.set k (.sl esz ((es.drop off).take len))))) Q):WeakE e σ Q:=fun G w vs hs hv=>by
 have hne:¬ p=id:=fun e=>by subst e;rw [hp] at hσ;cases hσ
 obtain ⟨b,base,hb,ho⟩:=hs.used p _ hp
 obtain ⟨hk',hk2⟩:=List.getElem?_eq_some_iff.1 hk
 cases ho with
 | box hh hsz hf hvv =>
   rename_i ccs ty
   have h0:=hvv k hk'
   rw [hk2] at h0
   obtain ⟨G',h1,h2,h3⟩:=we hs hσ hle h0
   have hp':(σ.del id) p=some (.box cs):=by rw [Store.del_ne _ hne];exact hp
   obtain ⟨h4,h5⟩:=h2.obj (o' := .box (cs.set k (.sl esz ((es.drop off).take len)))) hp' (fun b' base' hb' ho'=>by
    have e1:=h1.ρ _ _ hb
    rw [hb'] at e1;cases e1
    refine .box hh (by rw [List.length_set];exact hsz) (fun c hc => ?_) (fun i hi => ?_)
    ·rcases List.mem_or_eq_of_mem_set hc with hc | rfl
     ·exact hf c hc
     ·rfl
    ·by_cases hik:i=k
     ·subst hik;rw [List.getElem_set_self];exact h3
     ·rw [List.getElem_set_ne (fun e=>hik e.symm)]
      exact h1.vrel hs (hvv i (by simpa using hi)))
   have hx:=h1.trans h5
   obtain ⟨G2,e2,σ2,g1,g2,g3,g4⟩:=h G' w vs h4 (fun u v hu=>by
    obtain ⟨y,hy,hyr⟩:=hv u v hu;exact ⟨y,hy,h1.vrel hs hyr⟩)
   exact ⟨G2,e2,σ2,hx.trans g1,g2,g3,g4⟩
theorem WeakE.cell {e:Env} {σ:Store} {Q:Env→Store→Prop} (p k:Nat) {a b:AV} {cs:List AV} (hp:σ p=some (.box cs)) (hk:cs[k]? = some a) (hab:∀ G w v,VRel G w a v→VRel G w b v) (hbf:b.flat=true)
 (h:WeakE e (σ.set p (.box (cs.set k b))) Q):WeakE e σ Q:=fun G w vs hs hv=>by
 obtain ⟨hk',hk2⟩:=List.getElem?_eq_some_iff.1 hk
 obtain ⟨h4,h5⟩:=hs.obj (o' := .box (cs.set k b)) hp (fun b' base' hb' ho'=>by
  cases ho' with
  | box hh hsz hf hvv =>
    refine .box hh (by rw [List.length_set];exact hsz) (fun c hc => ?_) (fun i hi => ?_)
    ·rcases List.mem_or_eq_of_mem_set hc with hc | rfl
     ·exact hf c hc
     ·exact hbf
    ·by_cases hik:i=k
     ·subst hik;rw [List.getElem_set_self];have:=hvv i hk';rw [hk2] at this;exact hab _ _ _ this
     ·rw [List.getElem_set_ne (fun e=>hik e.symm)]
      exact hvv i (by simpa using hi))
 obtain ⟨G2,e2,σ2,g1,g2,g3,g4⟩:=h G w vs h4 hv
 exact ⟨G2,e2,σ2,h5.trans g1,g2,g3,g4⟩
end Go.Am
namespace Go.Am
theorem WeakE.boxImp {e:Env} {σ:Store} {Q:Env→Store→Prop} (p:Nat) {cs cs':List AV} (hp:σ p=some (.box cs)) (hi:ImpL cs cs') (h:WeakE e (σ.set p (.box cs')) Q):WeakE e σ Q:=fun G w vs hs hv=>by
 have hl:=hi.length
 obtain ⟨h4,h5⟩:=hs.obj (o' := .box cs') hp (fun b' base' hb' ho'=>by
  cases ho' with
  | box hh hsz hf hvv =>
    refine .box hh (by rw [←hl];exact hsz) (fun c hc=>hi.flat c hc) (fun i hx => ?_)
    have hi':i<cs.length:=by rw [hl];exact hx
    obtain ⟨b,hb,hr⟩:=hi.get i _ (List.getElem?_eq_getElem hi')
    rw [List.getElem?_eq_getElem hx] at hb;cases hb
    exact hr.2 _ _ _ (hvv i hi'))
 obtain ⟨G2,e2,σ2,g1,g2,g3,g4⟩:=h G w vs h4 hv
 exact ⟨G2,e2,σ2,h5.trans g1,g2,g3,g4⟩
end Go.Am
namespace Go.Am.Ts14
open Go.Proofs Go.Am.B
def t8_173:BC:=z [m 173 9,g 174 15 [.t 173],m 175 174,⟨some 176,some (175,true),.pure (.mov),[.t 11]⟩,⟨some 177,some (175,true),.loud (.call 15),[.t 176]⟩,⟨some 178,none,.pick,[.t 175,.t 177,.c (.bool false)]⟩,m 179 178,⟨some 180,some (179,true),.loud (.call 15),[.c .nils]⟩,⟨some 181,none,.pick,[.t 179,.t 180,.c (.bool false)]⟩,m 182 181,⟨some 183,some (182,true),.loud (.call 17),[]⟩,⟨some 184,none,.pick,[.t 182,.t 183,.c (.bool false)]⟩,m 0 184] [0] .ret
def t8_157:BC := .seq (.wk 52 (.ops [⟨some 157,none,.load (.ld 9 true),[.t 14]⟩,⟨some 158,none,.load (.ld 9 true),[.t 12]⟩,g 159 33 [.t 157,.t 158],u 160 .not 159,m 161 160,⟨some 162,some (161,false),.load (.ld 9 true),[.t 12]⟩,⟨some 163,some (161,false),.load (.ld 9 true),[.t 14]⟩,⟨some 164,some (161,false),.loud (.call 33),[.t 162,.t 163]⟩,⟨some 165,some (161,false),.pure (.not),[.t 164]⟩,⟨some 166,none,.pick,[.t 161,.c (.bool true),.t 165]⟩,m 167 166,⟨some 168,some (167,false),.load (.ld 9 true),[.t 14]⟩,⟨some 169,some (167,false),.loud (.call 11),[.t 168]⟩,⟨some 170,some (167,false),.loud (.call 15),[.t 169]⟩,⟨some 171,some (167,false),.pure (.not),[.t 170]⟩,⟨some 172,none,.pick,[.t 167,.c (.bool true),.t 171]⟩] [9,11,12,13,172])) (.cond (.t 172) (z [k 0 (.bool false)] [0] .ret) .skip)
def t8_13:BC := .seq (.seq (.wk 31 (.ops [j 13 0] [9,11,12,13])) (.block 10 (.loop [9,11,12,13] (.seq (z [m 123 13,c 124 .lss 123 9] [9,11,12,13,124] (.cond (.t 124) .skip (.exit 10))) (.seq (.block 11 (z [⟨some 127,none,.load (.ld 9 true),[.t 12]⟩,⟨some 14,none,.alloc (.alloc [(.int .i64 0),.nils,(.int .u32 0),(.bool false),(.int .u32 0),(.bool false),(.int .u32 0),(.bool false),.nils]),[]⟩,s 9 14 127] [9,11,12,13,14] (.seq (z [m 128 13] [9,11,12,13,14,128] (.block 12 (z [c 130 .eql 128 1,m 129 130] [9,11,12,13,14,128,129] (.cond (.t 129) (.ops [f 131 0 14,⟨none,none,.loud (.st 1),[.t 131,.c (.int .i64 3)]⟩] [9,11,12,13,14]) (z [c 133 .eql 128 2,m 132 133] [9,11,12,13,14,128,132] (.cond (.t 132) (.ops [f 134 2 14,⟨none,none,.loud (.st 1),[.t 134,.c (.int .u32 0)]⟩] [9,11,12,13,14]) (z [c 136 .eql 128 3,m 135 136] [9,11,12,13,14,128,135] (.cond (.t 135) (.ops [f 137 3 14,⟨none,none,.loud (.st 1),[.t 137,.c (.bool false)]⟩] [9,11,12,13,14]) (z [c 139 .eql 128 4,m 138 139] [9,11,12,13,14,128,138] (.cond (.t 138) (.ops [f 140 5 14,⟨none,none,.loud (.st 1),[.t 140,.c (.bool false)]⟩] [9,11,12,13,14]) (z [c 142 .eql 128 5,m 141 142] [9,11,12,13,14,128,141] (.cond (.t 141) (.ops [⟨some 143,none,.alloc (.mksl 1 3),[.c (.int .u32 2),.c (.int .u32 1),.c (.int .u32 1)]⟩,f 144 8 14,s 1 144 143] [9,11,12,13,14]) (z [c 146 .eql 128 6,m 145 146] [9,11,12,13,14,128,145] (.cond (.t 145) (.ops [⟨some 147,none,.alloc (.make 1 [(.int .u32 0)] 4),[.c (.int .i64 33),.c (.int .i64 33)]⟩,f 148 8 14,s 1 148 147] [9,11,12,13,14]) (z [c 150 .eql 128 7,m 149 150] [9,11,12,13,14,128,149] (.cond (.t 149) (.ops [p 151 (.build [(.int .i64 0),.nils] []) [],⟨some 152,none,.alloc (.mksl 2 1),[.t 151]⟩,f 153 1 14,s 1 153 152] [9,11,12,13,14]) (z [c 155 .eql 128 8,m 154 155] [9,11,12,13,14,154] (.cond (.t 154) (.ops [f 156 7 14,⟨none,none,.loud (.st 1),[.t 156,.c (.bool false)]⟩] [9,11,12,13,14]) .skip)))))))))))))))))) t8_157))) (.ops [m 125 13,c 126 .add 125 1,m 13 126] [9,11,12,13])))))) t8_173
def t8_121:BC := .seq (.wk 30 (.ops [⟨some 121,none,.alloc (.mksl 1 2),[.c (.int .u32 1),.c (.int .u32 2)]⟩,p 122 (.build [(.int .i64 0),.nils,(.int .u32 0),(.bool false),(.int .u32 0),(.bool false),(.int .u32 0),(.bool false),.nils] [(0,1),(2,1),(3,1),(4,1),(5,1),(6,1),(7,1),(8,1)]) [.c (.int .i64 1),.c (.int .u32 16909060),.c (.bool true),.c (.int .u32 5),.c (.bool true),.c (.int .u32 6),.c (.bool true),.t 121],⟨some 12,none,.alloc (.alloc [(.int .i64 0),.nils,(.int .u32 0),(.bool false),(.int .u32 0),(.bool false),(.int .u32 0),(.bool false),.nils]),[]⟩,s 9 12 122] [9,11,12])) t8_13
def t8_101:BC:=z [⟨some 101,none,.alloc (.mksl 1 4),[.c (.int .u8 208),.c (.int .u8 8),.c (.int .u8 0),.c (.int .u8 132)]⟩,m 9 101] [9] (.seq (z [j 10 0] [9,10] (.block 8 (.loop [9,10] (.seq (z [m 102 10,c 103 .lss 102 33] [9,10,103] (.cond (.t 103) .skip (.exit 8))) (.seq (.block 9 (.ops [m 106 9,m 107 10,p 108 (.bin .sub) [.c (.int .i64 40),.t 107],u 109 (.conv .u8) 108,⟨some 110,none,.alloc (.mksl 1 4),[.c (.int .u8 0),.c (.int .u8 0),.c (.int .u8 0),.t 109]⟩,⟨some 111,none,.loud (.app 1 1),[.t 106,.t 110]⟩,m 9 111] [9,10])) (.ops [m 104 10,c 105 .add 104 1,m 10 105] [9,10])))))) (.seq (.wk 28 (.ops [⟨some 112,none,.alloc (.mksl 1 0),[]⟩,m 113 9,m 114 9,u 115 .len 114,c 116 .sub 115 4,p 117 (.slice 1 false true) [.t 113,.t 116],⟨some 118,none,.loud (.app 1 1),[.t 112,.t 117]⟩,m 11 118] [9,11])) (z [m 119 11,p 120 (.idx 1) [.t 119,.c (.int .i64 3)],⟨none,none,.loud (.st 1),[.t 120,.c (.int .u8 128)]⟩] [9,11] t8_121)))
def t8_73:BC := .seq (z [⟨some 73,none,.alloc (.mksl 1 10),[.c (.int .u32 0),.c (.int .u32 16777215),.c (.int .u32 16777216),.c (.int .u32 2130706431),.c (.int .u32 2130706432),.c (.int .u32 2147483647),.c (.int .u32 2147483648),.c (.int .u32 3758096383),.c (.int .u32 3758096384),.c (.int .u32 4294967295)]⟩,u 74 .len 73,j 75 0] [73,74,75] (.block 6 (.loop [73,74,75] (z [b 76 .lss 75 74] [73,74,75,76] (.seq (.cond (.t 76) .skip (.exit 6)) (.seq (.block 7 (z [x 77 1 73 75,l 78 1 77,m 8 78] [8,73,74,75] (z [m 79 8,g 80 31 [.t 79],m 81 8,g 82 32 [.t 81],p 83 (.eqb true) [.t 80,.t 82],m 84 83,⟨some 85,some (84,false),.pure (.mov),[.t 8]⟩,⟨some 86,some (84,false),.pure (.bin .shr),[.t 85,.c (.int .u64 24)]⟩,⟨some 87,some (84,false),.pure (.conv .u8),[.t 86]⟩,⟨some 88,some (84,false),.pure (.mov),[.t 8]⟩,⟨some 89,some (84,false),.pure (.bin .shr),[.t 88,.c (.int .u64 16)]⟩,⟨some 90,some (84,false),.pure (.conv .u8),[.t 89]⟩,⟨some 91,some (84,false),.pure (.mov),[.t 8]⟩,⟨some 92,some (84,false),.pure (.bin .shr),[.t 91,.c (.int .u64 8)]⟩,⟨some 93,some (84,false),.pure (.conv .u8),[.t 92]⟩,⟨some 94,some (84,false),.pure (.mov),[.t 8]⟩,⟨some 95,some (84,false),.pure (.conv .u8),[.t 94]⟩,⟨some 96,some (84,false),.alloc (.mksl 1 7),[.c (.int .u8 64),.c (.int .u8 3),.c (.int .u8 4),.t 87,.t 90,.t 93,.t 95]⟩,⟨some 97,some (84,false),.loud (.call 15),[.t 96]⟩,⟨some 98,some (84,false),.pure (.not),[.t 97]⟩,⟨some 99,none,.pick,[.t 84,.c (.bool true),.t 98]⟩] [73,74,75,99] (.cond (.t 99) (z [k 0 (.bool false)] [0] .ret) .skip)))) (.ops [c 100 .add 75 1,m 75 100] [73,74,75]))))))) t8_101
def t8_51:BC:=z [m 51 6,g 52 15 [.t 51],u 53 .not 52,m 54 53,⟨some 55,some (54,false),.pure (.mov),[.t 6]⟩,⟨some 56,some (54,false),.pure (.mov),[.t 6]⟩,⟨some 57,some (54,false),.pure (.len),[.t 56]⟩,⟨some 58,some (54,false),.pure (.bin .sub),[.t 57,.c (.int .i64 1)]⟩,⟨some 59,some (54,false),.pure (.slice 1 false true),[.t 55,.t 58]⟩,⟨some 60,some (54,false),.loud (.call 15),[.t 59]⟩,⟨some 61,some (54,false),.pure (.not),[.t 60]⟩,⟨some 62,none,.pick,[.t 54,.c (.bool true),.t 61]⟩,m 63 62,⟨some 64,some (63,false),.alloc (.mksl 1 4),[.c (.int .u8 64),.c (.int .u8 1),.c (.int .u8 1),.c (.int .u8 0)]⟩,⟨some 65,some (63,false),.pure (.mov),[.t 6]⟩,⟨some 66,some (63,false),.loud (.app 1 1),[.t 64,.t 65]⟩,⟨some 67,some (63,false),.alloc (.mksl 1 3),[.c (.int .u8 64),.c (.int .u8 6),.c (.int .u8 0)]⟩,⟨some 68,some (63,false),.loud (.app 1 1),[.t 66,.t 67]⟩,⟨some 69,some (63,false),.loud (.call 15),[.t 68]⟩,⟨some 70,some (63,false),.pure (.not),[.t 69]⟩,⟨some 71,none,.pick,[.t 63,.c (.bool true),.t 70]⟩] [1,3,4,19,20,21,71] (.cond (.t 71) (z [k 0 (.bool false)] [0] .ret) .skip)
def b8:BC:=z [k 0 (.bool false)] [] (.seq (z [j 1 0] [1] (.block 0 (.loop [1] (.seq (z [m 15 1,c 16 .lss 15 12] [1,16] (.cond (.t 16) .skip (.exit 0))) (.seq (.block 1 (z [⟨some 19,none,.alloc (.mksl 1 11),[.c (.int .u8 0),.c (.int .u8 64),.c (.int .u8 128),.c (.int .u8 192),.c (.int .u8 96),.c (.int .u8 160),.c (.int .u8 224),.c (.int .u8 80),.c (.int .u8 79),.c (.int .u8 144),.c (.int .u8 208)]⟩,u 20 .len 19,j 21 0] [1,19,20,21] (.block 2 (.loop [1,19,20,21] (z [b 22 .lss 21 20] [1,19,20,21,22] (.seq (.cond (.t 22) .skip (.exit 2)) (.seq (.block 3 (z [x 23 1 19 21,l 24 1 23,m 3 24] [1,3,19,20,21] (z [j 4 0] [1,3,4,19,20,21] (.block 4 (.loop [1,3,4,19,20,21] (.seq (z [m 25 4,c 26 .lss 25 9] [1,3,4,19,20,21,26] (.cond (.t 26) .skip (.exit 4))) (.seq (.block 5 (z [⟨some 29,none,.alloc (.mksl 1 9),[.c (.int .u8 2),.c (.int .u8 1),.c (.int .u8 1),.c (.int .u8 0),.c (.int .u8 0),.c (.int .u8 0),.c (.int .u8 1),.c (.int .u8 0),.c (.int .u8 0)]⟩,m 30 4,p 31 (.slice 1 false true) [.t 29,.t 30],m 5 31] [1,3,4,5,19,20,21] (z [m 32 3,m 33 1,u 34 (.conv .u8) 33,m 35 4,u 36 (.conv .u8) 35,⟨some 37,none,.alloc (.mksl 1 3),[.t 32,.t 34,.t 36]⟩,m 38 5,⟨some 39,none,.loud (.app 1 1),[.t 37,.t 38]⟩,m 6 39] [1,3,4,5,6,19,20,21] (.seq (z [m 40 3,p 41 (.bin .and) [.t 40,.c (.int .u8 16)],p 42 (.bin .neq) [.t 41,.c (.int .u8 0)]] [1,3,4,5,6,19,20,21,42] (.cond (.t 42) (.ops [m 43 3,m 44 1,u 45 (.conv .u8) 44,m 46 4,u 47 (.conv .u8) 46,⟨some 48,none,.alloc (.mksl 1 4),[.t 43,.t 45,.c (.int .u8 0),.t 47]⟩,m 49 5,⟨some 50,none,.loud (.app 1 1),[.t 48,.t 49]⟩,m 6 50] [1,3,4,6,19,20,21]) .skip)) t8_51)))) (.ops [m 27 4,c 28 .add 27 1,m 4 28] [1,3,4,19,20,21])))))))) (.ops [c 72 .add 21 1,m 21 72] [1,19,20,21])))))))) (.ops [m 17 1,c 18 .add 17 1,m 1 18] [1])))))) t8_73)
def F8:Fn Tryz.prog 8:=Fn.mkW false [28,30,31,52] b8 [.t 0] 185 Tryz.f8 _ Tryz.func8 (by decide) rfl Tryz.ntmps8 (by kernel_rfl) (by kernel_rfl)
end Go.Am.Ts14
