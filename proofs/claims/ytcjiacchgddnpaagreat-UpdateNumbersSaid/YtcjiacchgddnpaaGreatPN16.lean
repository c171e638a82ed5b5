/- A part of the proof: a logic for calls over plain values, and the functions that the law reaches, each walked once. -/
import Derived.Test.YtcjiacchgddnpaaGreatPN15
set_option linter.unusedVariables false
set_option linter.unusedSimpArgs false
set_option linter.unusedSectionVars false
namespace Go.Am
open Go.Proofs Go.Sort
def RZ (σ:Store) (v:AV) (B:List Int) (τ:Store) (id:Nat) (R:List Int) (lack:Bool) (s:Store):Prop:=∃ (at_:Nat),τ id=none∧Store.sub τ s∧Store.sub σ τ∧s id=some (.box [v,.int .i64 (at_:Int),.bool lack])∧Rd 1 σ (B.map cB) v∧at_≤B.length∧R=B.drop at_∧B.length≤1000000000∧U8s B
section
variable {σ τ s:Store} {v:AV} {B:List Int} {id:Nat} {R:List Int} {lack:Bool}
theorem RZ.base (h:RZ σ v B τ id R lack s):RZ σ v B (s.del id) id R lack s∧Store.sub τ (s.del id):=by
 obtain ⟨at_,h1,h2,h3,h4,h5⟩:=h
 exact ⟨⟨at_,by simp,y6 _ _,Store.sub_trans h3 (sub_del h2 h1),h4,h5⟩,sub_del h2 h1⟩
theorem RZ.weak {τ':Store} (h:RZ σ v B τ' id R lack s) (hs:Store.sub τ τ') (h0:Store.sub σ τ):RZ σ v B τ id R lack s:=by
 obtain ⟨at_,h1,h2,h3,h4,h5⟩:=h
 exact ⟨at_,zj hs h1,Store.sub_trans hs h2,h0,h4,h5⟩
theorem RZ.sub2 (h:RZ σ v B τ id R lack s):Store.sub τ s:=by obtain ⟨_,_,h2,_⟩:=h;exact h2
theorem RZ.to {s':Store} (h:RZ σ v B τ id R lack s) (hs:Store.sub τ s') (hid:∀ o,s id=some (.box o)→s' id=some (.box o)):RZ σ v B τ id R lack s':=by
 obtain ⟨at_,h1,h2,h3,h4,h5⟩:=h
 exact ⟨at_,h1,hs,h3,hid _ h4,h5⟩
theorem RZ.rf (h:RZ σ v B τ id R lack s):∃ at_,RF τ id v B at_ lack s∧R=B.drop at_∧B.length≤1000000000∧U8s B∧Store.sub σ τ∧Rd 1 σ (B.map cB) v:=by
 obtain ⟨at_,h1,h2,h3,h4,h5,h6,h7,h8,h9⟩:=h
 exact ⟨at_,⟨h1,h2,h4,h5.mono h3,h6⟩,h7,h8,h9,h3,h5⟩
theorem RZ.of {at_:Nat} (h:RF τ id v B at_ lack s) (h1:B.length≤1000000000) (h2:U8s B) (h3:Store.sub σ τ) (h4:Rd 1 σ (B.map cB) v):RZ σ v B τ id (B.drop at_) lack s:=⟨at_,h.1,h.2.1,h3,h.2.2.1,h4,h.2.2.2.2,rfl,h1,h2⟩
theorem z67 (h:RZ σ v B τ id R lack s):ACalls Tryz.prog 82 [.ptr id 0] s (fun r s'=>r = .int .i64 (numM 1 R lack).1∧RZ σ v B τ id (numM 1 R lack).2.1 (numM 1 R lack).2.2 s'):=by
 obtain ⟨at_,hf,rfl,h1,h2,h3,h4⟩:=h.rf
 refine (s82 hf h1 h2).mono fun r s' ⟨a,b⟩=>⟨a,?_⟩
 have:=RZ.of b h1 h2 h3 h4
 rw [←List.drop_drop,←xy] at this
 exact this
theorem z66 (h:RZ σ v B τ id R lack s):ACalls Tryz.prog 83 [.ptr id 0] s (fun r s'=>r = .int .i64 (numM 2 R lack).1∧RZ σ v B τ id (numM 2 R lack).2.1 (numM 2 R lack).2.2 s'):=by
 obtain ⟨at_,hf,rfl,h1,h2,h3,h4⟩:=h.rf
 refine (s83 hf h1 h2).mono fun r s' ⟨a,b⟩=>⟨a,?_⟩
 have:=RZ.of b h1 h2 h3 h4
 rw [←List.drop_drop,←xy] at this
 exact this
theorem z65 (h:RZ σ v B τ id R lack s) (n:Int) (hn:n≤1000000000000):ACalls Tryz.prog 84 [.ptr id 0,.int .i64 n] s (fun r s'=>r = .sl 1 ((rawM n R lack).1.map cB)∧RZ σ v B τ id (rawM n R lack).2.1 (rawM n R lack).2.2 s'):=by
 obtain ⟨at_,hf,rfl,h1,h2,h3,h4⟩:=h.rf
 refine (s84 hf h1 n hn).mono fun r s' ⟨a,b⟩=>⟨a,?_⟩
 have:=RZ.of b h1 h2 h3 h4
 rw [←List.drop_drop,←xy] at this
 exact this
theorem z7q (h:RZ σ v B τ id R lack s):ACalls Tryz.prog 81 [.ptr id 0] s (fun r s'=>s'=s∧r = .int .i64 (if lack then 0 else (R.length:Int))):=by
 obtain ⟨at_,hf,rfl,h1,h2,h3,h4⟩:=h.rf
 exact s81 hf h1
end
theorem RZ.new {σ T:Store} {id:Nat} {v:AV} {B:List Int} (hid:T id=none) (hs:Store.sub σ T) (hr:Rd 1 σ (B.map cB) v) (h1:B.length≤1000000000) (h2:U8s B):RZ σ v B σ id B false (T.set id (.box [v,.int .i64 0,.bool false])) :=
 ⟨0,zj hs hid,z8 hs (zj hs hid),Store.sub_refl _,Store.set_same _ _ _,hr,by omega,by simp,h1,h2⟩
def flags (S:List Int):List AV:=(List.range 256).map fun k:Nat => .bool (decide ((k:Int) ∈ S))
theorem y8 (S:List Int):(flags S).length=256:=by simp [flags]
theorem uu (S:List Int) {k:Nat} (hk:k<256):(flags S)[k]'(by rw [y8];exact hk) = .bool (decide ((k:Int) ∈ S)):=by simp [flags]
theorem z2a (S:List Int) {k:Nat} (hk:k<256):List.take 1 (List.drop k (flags S))=[.bool (decide ((k:Int) ∈ S))]:=by
 rw [List.drop_eq_getElem_cons (by rw [y8];exact hk),uu S hk];rfl
theorem z2b (S:List Int) {k:Nat} (hk:k<256):(flags S).set k (.bool true)=flags ((k:Int)::S):=by
 apply List.ext_getElem
 ·rw [List.length_set,y8,y8]
 ·intro i h1 h2
  rw [y8] at h2
  rw [List.getElem_set,uu _ h2,uu _ h2]
  by_cases e:k=i
  ·subst e;simp
  ·rw [if_neg e];congr 1;simp only [List.mem_cons,decide_eq_decide]
   constructor
   ·exact .inr
   ·rintro (h | h)
    ·omega
    ·exact h
theorem qc {x:AV}:∀ (k:Nat) (cs:List AV),k<cs.length→splice k [x] cs=some (cs.set k x)
 | 0,_::cs,_=>by cases cs <;> rfl
 | k+1,c::cs,h=>by
   simp only [splice,qc k cs (by simpa using h)];rfl
theorem z37 (S:List Int) {k:Nat} (hk:k<256):splice (0+k*1) [.bool true] (flags S)=some (flags ((k:Int)::S)):=by
 rw [←z2b S hk,show 0+k*1=k by omega]
 exact qc _ _ (by rw [y8];exact hk)
theorem z2s (S:List Int) {k:Nat} (hk:k<256):splice k [.bool true] (flags S)=some (flags ((k:Int)::S)):=by
 rw [←z2b S hk];exact qc _ _ (by rw [y8];exact hk)
theorem z29 {S S':List Int} (h:∀ x,x ∈ S↔x ∈ S'):flags S=flags S':=by
 unfold flags
 refine List.map_congr_left fun k _ => ?_
 simp only [h]
theorem AJ.weak {τ:Store} {id:Nat} {a:At} {fr fr':Prop} {s:Store} (h:AJ τ id a fr s) (hf:fr'→fr):AJ τ id a fr' s:=by
 obtain ⟨q1,q2,pv,cv,q3,q4,q5,q6⟩:=h
 exact ⟨q1,q2,pv,cv,q3,q4,q5,fun h=>q6 (hf h)⟩
theorem z6m:fls=flags []:=by
 have:flags []=List.replicate 256 (.bool false):=by
  apply List.ext_getElem
  ·rw [y8,List.length_replicate]
  ·intro i h1 h2;rw [y8] at h1;rw [uu _ h1,List.getElem_replicate];simp
 rw [this];rfl
theorem z55 {b:List Int} {c:Ch} (hu:U8s b) (h:chunk b=some c):0≤c.kind∧c.kind<256:=by
 unfold chunk at h
 split at h
 ·split at h
  ·split at h
   ·cases h
   ·cases h
    exact hu _ (by simp)
  ·split at h
   ·split at h
    ·cases h
    ·cases h
     exact hu _ (by simp)
   ·cases h
 ·cases h
theorem z96 {c:Ch} {a:At} {n:Nt} (h:valA c a = .error n):(n.1=11→n.2=[])∧(¬ n.1=11→n.2=c.all):=by
 unfold valA at h
 repeat' split at h
 all_goals first
  | (cases h;exact ⟨fun e=>by simp at e,fun _=>rfl⟩)
  | (cases h;exact ⟨fun _=>rfl,fun e=>absurd rfl e⟩)
  | cases h
set_option maxHeartbeats 1000000 in
theorem z71 {σ V:Store} {p4 p6 p7 p8 p9 pt:Nat} (inner:Bool) {v wv bo:AV} (c:Ch) (a:At) (ty:List Int) {fr:Prop} (h46:¬ p4=p6) (h6:¬ p6=p4) (k48:¬ p4=p8) (k68:¬ p6=p8) (t4:¬ p4=pt) (t6:¬ p6=pt) (t8:¬ p8=pt) (hσt:σ pt=none)
 (V4:V p4=some (.box zC)) (V6:V p6=some (.box zN)) (Vt:V pt=some (.box (flags ty))) (VA:AJ σ p8 a fr V) (h8:c.kind=8→fr) (hk0:0≤c.kind) (hk1:c.kind<256)
 (hv:c.val.length≤1000000) (hu:U8s c.val) (hal:c.all.length≤1000000) (hra:Rd 1 σ (c.all.map cB) wv) {n r:Env→Store→Prop} {xx:Nat→Env→Store→Prop}
 (hgo:∀ a' t,stepA c a = .ok a'→AJ σ p8 a' (fr∧c.kind≠8) t→t pt=some (.box (flags (c.kind::ty)))→(∀ q o,q≠p8→q≠pt→V q=some o→t q=some o) →
   (∀ E:Env,n ((0,v)::(1,.bool inner)::(4,.ptr p4 0)::(6,.ptr p6 0)::(7,.ptr p7 0)::(8,.ptr p8 0)::(9,.ptr p9 0)::(10,.ptr pt 0)::E) t)∧∀ E:Env,xx 1 ((0,v)::(1,.bool inner)::(4,.ptr p4 0)::(6,.ptr p6 0)::(7,.ptr p7 0)::(8,.ptr p8 0)::(9,.ptr p9 0)::(10,.ptr pt 0)::E) t)
 (hbad:∀ t nt,stepA c a = .error nt→Store.sub σ t→r [(4,.ptr p4 0),(5,.sl 1 []),(6,.ptr p6 0)] ((t.set p4 (.box zeroAt.c)).set p6 (.box [.int .i64 3,.int .i64 nt.1,.sl 1 (nt.2.map cB)]))) :
 bwp Tryz.prog Tsr.t42_75 [(0,v),(1,.bool inner),(4,.ptr p4 0),(6,.ptr p6 0),(7,.ptr p7 0),(8,.ptr p8 0),(9,.ptr p9 0),(10,.ptr pt 0),(12,.int .i64 c.fl),(13,.int .i64 c.kind),(14,.int .i64 (c.val.length:Int)),(15,.sl 1 (c.val.map cB)),(16,wv),(74,bo)] V n r xx:=by
 simp only [Tsr.t42_75]
 obtain ⟨K,hK,hK2⟩:∃ K:Nat,c.kind=(K:Int)∧K<256:=⟨c.kind.toNat,by omega,by omega⟩
 have fl256:=y8
 simp only [hK,Vt,↓vcPre,↓z0,↓reduceIte,vcPost,vcStd,Nat.reduceEqDiff,reduceCtorEq,Nat.reduceAdd,Nat.reduceLeDiff,Int.reduceLT,Int.reduceLE,↓u_setN]
 refine ⟨hK2,?_⟩
 rw [z37 ty hK2,x6]
 rw [←hK]
 have hVσ:=VA.2.1
 have hVt:Store.sub σ (V.set pt (.box (flags (c.kind::ty)))):=z8 VA.2.1 hσt
 have Wt:(V.set pt (.box (flags (c.kind::ty)))) pt=some (.box (flags (c.kind::ty))):=Store.set_same _ _ _
 have W4:(V.set pt (.box (flags (c.kind::ty)))) p4=some (.box zC):=by rw [Store.set_ne _ _ t4];exact V4
 have W6:(V.set pt (.box (flags (c.kind::ty)))) p6=some (.box zN):=by rw [Store.set_ne _ _ t6];exact V6
 have WA:AJ σ p8 a fr (V.set pt (.box (flags (c.kind::ty)))):=by
  obtain ⟨q1,q2,pv,cv,q3,q4,q5,q6⟩:=VA
  exact ⟨q1,hVt,pv,cv,by rw [Store.set_ne _ _ t8];exact q3,q4,q5.setId Vt (fun M e=>by cases e),q6⟩
 have Wk:∀ q o,q≠p8→q≠pt→V q=some o→(V.set pt (.box (flags (c.kind::ty)))) q=some o:=fun q o _ h2 h=>by rw [Store.set_ne _ _ h2];exact h
 generalize V.set pt (.box (flags (c.kind::ty)))=W at hVt Wt W4 W6 WA Wk ⊢
 have e1:andI c.fl 128=bitInt .and .i64 c.fl 128:=rfl
 have e2:andI c.fl 192=bitInt .and .i64 c.fl 192:=rfl
 have e3:andI c.fl 32=bitInt .and .i64 c.fl 32:=rfl
 have szl:splice 0 zeroAt.c zC=some zeroAt.c:=rfl
 have szn:∀ x y z:AV,splice 0 [x,y,z] zN=some [x,y,z]:=fun _ _ _=>rfl
 have z9:zeroAt.c.length=9:=rfl
 have nt:∀ (t:Store) (x:Int),Store.sub σ t→ACalls Tryz.prog 85 [.int .i64 x,wv] t (fun r s'=>s'=t∧r=outD (.error (x,c.all))):=fun t x h=>s85 (hra.mono h) (by omega) x
 refine (c86 c.kind).Q ?_
 by_cases hw:wantOf c.kind=0
 ·rw [hw]
  simp only [↓vcPre,↓z0,↓reduceIte,vcPost,vcStd,Nat.reduceEqDiff,reduceCtorEq,Nat.reduceAdd,Nat.reduceLeDiff,Int.reduceLT,Int.reduceLE,↓u_setN]
  have hst:stepA c a=if andI c.fl 128=0 then .error (2,c.all) else .ok a:=by unfold stepA;rw [if_pos hw]
  refine ⟨fun g => ?_,fun g => ?_⟩
  ·refine (nt W 2 hVt).Q ?_
   rintro r' t ⟨rfl,rfl⟩
   simp only [outD]
   simp only [W4,W6,h46,h6,z9,szl,szn,↓vcPre,↓z0,↓reduceIte,vcPost,vcStd,Nat.reduceEqDiff,reduceCtorEq,Nat.reduceAdd,Nat.reduceLeDiff,Int.reduceLT,Int.reduceLE,↓u_setN]
   exact hbad _ (2,c.all) (by rw [hst,if_pos (e1.trans g)]) hVt
  ·have hne:c.kind≠8:=fun e=>by rw [e] at hw;exact absurd hw (by decide)
   refine (hgo a W (by rw [hst,if_neg (by rw [e1];exact g)]) ?_ Wt Wk).2 _
   obtain ⟨q1,q2,pv,cv,q3,q4,q5,q6⟩:=WA
   exact ⟨q1,q2,pv,cv,q3,q4,q5,fun h=>q6 h.1⟩
 ·simp only [hw,↓vcPre,↓z0,↓reduceIte,vcPost,vcStd,Nat.reduceEqDiff,reduceCtorEq,Nat.reduceAdd,Nat.reduceLeDiff,Int.reduceLT,Int.reduceLE,↓u_setN]
  have rest:¬ (andI c.fl 192≠wantOf c.kind∨andI c.fl 32≠0∧c.kind≠8)→fitsOf c.kind c.val.length→∀ bo',bwp Tryz.prog Tsr.t42_116 [(0,v),(1,.bool inner),(4,.ptr p4 0),(6,.ptr p6 0),(7,.ptr p7 0),(8,.ptr p8 0),(9,.ptr p9 0),(10,.ptr pt 0),(13,.int .i64 c.kind),(15,.sl 1 (c.val.map cB)),(16,wv),(110,bo')] W n r xx:=by
   intro hb hf bo'
   simp only [Tsr.t42_116]
   have hst:stepA c a=valA c a:=by unfold stepA;rw [if_neg hw,if_neg hb,if_neg (not_not_intro hf)]
   simp only [↓vcPre,↓z0,↓reduceIte,vcPost,vcStd,Nat.reduceEqDiff,reduceCtorEq,Nat.reduceAdd,Nat.reduceLeDiff,Int.reduceLT,Int.reduceLE,↓u_setN]
   refine (s88 WA c hw hf hv hu h8).Q ?_
   rintro r' t ⟨hk,hτt,hpost⟩
   cases hva:valA c a with
   | ok a' =>
     rw [hva] at hpost
     obtain ⟨rfl,hA⟩:=hpost
     simp only [↓vcPre,↓z0,↓reduceIte,vcPost,vcStd,Nat.reduceEqDiff,reduceCtorEq,Nat.reduceAdd,Nat.reduceLeDiff,Int.reduceLT,Int.reduceLE,↓u_setN]
     have G:=hgo a' t (hst.trans hva) hA (hk _ _ (fun e=>t8 e.symm) Wt) (fun q o h1 h2 h3=>hk _ _ h1 (Wk q o h1 h2 h3))
     exact ⟨fun h=>absurd h (by decide),fun _=>G.1 _⟩
   | error nn =>
     rw [hva] at hpost
     obtain ⟨rfl,h0n⟩:=hpost
     obtain ⟨nx,nM⟩:=nn
     obtain ⟨g11,gall⟩:=z96 hva
     simp only at h0n g11 gall
     have u4:=hk _ _ k48 W4
     have u6:=hk _ _ k68 W6
     simp only [↓vcPre,↓z0,↓reduceIte,vcPost,vcStd,Nat.reduceEqDiff,reduceCtorEq,Nat.reduceAdd,Nat.reduceLeDiff,Int.reduceLT,Int.reduceLE,↓u_setN]
     refine ⟨fun g => ?_,fun g=>⟨fun _ => ?_,fun g0=>by omega⟩⟩
     ·refine (s85 (M:=[]) Rd.nils (by simp) 11).Q ?_
      rintro r' t' ⟨rfl,rfl⟩
      simp only [outD]
      simp only [u4,u6,h46,h6,z9,szl,szn,↓vcPre,↓z0,↓reduceIte,vcPost,vcStd,Nat.reduceEqDiff,reduceCtorEq,Nat.reduceAdd,Nat.reduceLeDiff,Int.reduceLT,Int.reduceLE,↓u_setN]
      have:=hbad t' (nx,nM) (hst.trans hva) hτt
      rw [g11 g,g] at this
      exact this
     ·refine (nt t nx hτt).Q ?_
      rintro r' t' ⟨rfl,rfl⟩
      simp only [outD]
      simp only [u4,u6,h46,h6,z9,szl,szn,↓vcPre,↓z0,↓reduceIte,vcPost,vcStd,Nat.reduceEqDiff,reduceCtorEq,Nat.reduceAdd,Nat.reduceLeDiff,Int.reduceLT,Int.reduceLE,↓u_setN]
      have:=hbad t' (nx,nM) (hst.trans hva) hτt
      rw [gall g] at this
      exact this
  have f4:(andI c.fl 192≠wantOf c.kind∨andI c.fl 32≠0∧c.kind≠8)→stepA c a = .error (4,c.all):=fun h=>by unfold stepA;rw [if_neg hw,if_pos h]
  refine ⟨fun c1=>⟨fun c2=>⟨fun c3 => ?_,fun c3 => ?_⟩,fun c2 => ?_⟩,fun c1 => ?_⟩
  ·refine (nt W 4 hVt).Q ?_
   rintro r' t ⟨rfl,rfl⟩
   simp only [outD]
   simp only [W4,W6,h46,h6,z9,szl,szn,↓vcPre,↓z0,↓reduceIte,vcPost,vcStd,Nat.reduceEqDiff,reduceCtorEq,Nat.reduceAdd,Nat.reduceLeDiff,Int.reduceLT,Int.reduceLE,↓u_setN]
   exact hbad _ (4,c.all) (f4 (by rw [e2,e3];omega)) hVt
  ·refine (c87 c.kind c.val.length hv).Q ?_
   have hb:¬ (andI c.fl 192≠wantOf c.kind∨andI c.fl 32≠0∧c.kind≠8):=by rw [e2,e3];omega
   by_cases hf:fitsOf c.kind c.val.length
   ·rw [decide_eq_true hf]
    simp only [↓vcPre,↓z0,↓reduceIte,vcPost,vcStd,Nat.reduceEqDiff,reduceCtorEq,Nat.reduceAdd,Nat.reduceLeDiff,Int.reduceLT,Int.reduceLE,↓u_setN]
    exact rest hb hf _
   ·have h5:stepA c a = .error (5,c.all):=by unfold stepA;rw [if_neg hw,if_neg hb,if_pos hf]
    rw [decide_eq_false hf]
    simp only [↓vcPre,↓z0,↓reduceIte,vcPost,vcStd,Nat.reduceEqDiff,reduceCtorEq,Nat.reduceAdd,Nat.reduceLeDiff,Int.reduceLT,Int.reduceLE,↓u_setN]
    refine (nt W 5 hVt).Q ?_
    rintro r' t ⟨rfl,rfl⟩
    simp only [outD]
    simp only [W4,W6,h46,h6,z9,szl,szn,↓vcPre,↓z0,↓reduceIte,vcPost,vcStd,Nat.reduceEqDiff,reduceCtorEq,Nat.reduceAdd,Nat.reduceLeDiff,Int.reduceLT,Int.reduceLE,↓u_setN]
    exact hbad _ (5,c.all) h5 hVt
  ·refine (c87 c.kind c.val.length hv).Q ?_
   have hb:¬ (andI c.fl 192≠wantOf c.kind∨andI c.fl 32≠0∧c.kind≠8):=by rw [e2,e3];omega
   by_cases hf:fitsOf c.kind c.val.length
   ·rw [decide_eq_true hf]
    simp only [↓vcPre,↓z0,↓reduceIte,vcPost,vcStd,Nat.reduceEqDiff,reduceCtorEq,Nat.reduceAdd,Nat.reduceLeDiff,Int.reduceLT,Int.reduceLE,↓u_setN]
    exact rest hb hf _
   ·have h5:stepA c a = .error (5,c.all):=by unfold stepA;rw [if_neg hw,if_neg hb,if_pos hf]
    rw [decide_eq_false hf]
    simp only [↓vcPre,↓z0,↓reduceIte,vcPost,vcStd,Nat.reduceEqDiff,reduceCtorEq,Nat.reduceAdd,Nat.reduceLeDiff,Int.reduceLT,Int.reduceLE,↓u_setN]
    refine (nt W 5 hVt).Q ?_
    rintro r' t ⟨rfl,rfl⟩
    simp only [outD]
    simp only [W4,W6,h46,h6,z9,szl,szn,↓vcPre,↓z0,↓reduceIte,vcPost,vcStd,Nat.reduceEqDiff,reduceCtorEq,Nat.reduceAdd,Nat.reduceLeDiff,Int.reduceLT,Int.reduceLE,↓u_setN]
    exact hbad _ (5,c.all) h5 hVt
  ·refine (nt W 4 hVt).Q ?_
   rintro r' t ⟨rfl,rfl⟩
   simp only [outD]
   simp only [W4,W6,h46,h6,z9,szl,szn,↓vcPre,↓z0,↓reduceIte,vcPost,vcStd,Nat.reduceEqDiff,reduceCtorEq,Nat.reduceAdd,Nat.reduceLeDiff,Int.reduceLT,Int.reduceLE,↓u_setN]
   exact hbad _ (4,c.all) (f4 (by rw [e2,e3];omega)) hVt
def selN (ty:List Int) (k:Nat):List Int:=((List.range k).map fun n:Nat=>(n:Int)).filter fun x=>decide (x ∈ ty)
theorem z2j (ty:List Int) (k:Nat):selN ty (k+1)=selN ty k++(if (k:Int) ∈ ty then [(k:Int)] else []):=by
 simp only [selN,List.range_succ,List.map_append,List.filter_append,List.map_cons,List.map_nil,List.filter_cons,List.filter_nil,decide_eq_true_eq]
theorem z8r (ty:List Int) (k:Nat):(selN ty k).length≤k:=by
 have:=List.length_filter_le (fun x=>decide (x ∈ ty)) ((List.range k).map fun n:Nat=>(n:Int))
 simpa [selN] using this
theorem z46 {ty:List Int} (hn:ty.Nodup) (hr:∀ x ∈ ty,0≤x∧x<256):selN ty 256=ty.mergeSort leI:=by
 have hlt:((List.range 256).map fun n:Nat=>(n:Int)).Pairwise (· < ·):=by
  rw [List.pairwise_map]
  exact List.pairwise_lt_range.imp fun h=>by omega
 refine z0r ?_ ((hlt.filter _).imp fun h=>by omega)
 refine (List.perm_ext_iff_of_nodup ((hlt.filter _).imp fun h=>by omega) hn).2 fun x => ?_
 simp only [selN,List.mem_filter,List.mem_map,List.mem_range,decide_eq_true_eq]
 refine ⟨fun h=>h.2,fun h=>⟨⟨x.toNat,?_,?_⟩,h⟩⟩
 ·have:=hr x h;omega
 ·have:=hr x h;omega
theorem zfx {f:Nat} {a:At} {pv cv R:AV} {σ β s:Store} (hp:pv = .sl 2 (a.path.map Seg.c)∨pv = .nils∧a.path=[]) (ho:Own 1 σ (a.cms.map cU) cv β) (hσ:Store.sub σ β) (hs:Store.sub β s)
 (h:∀ σ',ACalls Tryz.prog f [.agg a.c] σ' (fun r s'=>s'=σ'∧r=R)):ACalls Tryz.prog f [.agg [.int .i64 a.org,pv,.int .u32 a.nxt,.bool a.hm,.int .u32 a.med,.bool a.hp,.int .u32 a.prf,.bool a.atm,cv]] s (fun r s'=>r=R∧Store.sub σ s'∧∀ q o,s q=some o→(β q=none∨∀ L,o ≠ .arr 1 L)→s' q=some o):=by
 have h1:Imp pv (.sl 2 (a.path.map Seg.c)):=by
  rcases hp with rfl | ⟨rfl,e⟩
  ·exact .refl rfl
  ·rw [e];exact .nils
 have hf:∀ c ∈ a.c,c.flat=true:=by
  intro c hc
  simp only [At.c,List.mem_cons,List.not_mem_nil,or_false] at hc
  rcases hc with rfl | rfl | rfl | rfl | rfl | rfl | rfl | rfl | rfl <;> rfl
 have hcf:cv.flat=true:=by rcases ho with ⟨_,rfl⟩ | ⟨g,rfl,_⟩ <;> rfl
 have hi:ImpL [.int .i64 a.org,pv,.int .u32 a.nxt,.bool a.hm,.int .u32 a.med,.bool a.hp,.int .u32 a.prf,.bool a.atm,cv] [.int .i64 a.org,.sl 2 (a.path.map Seg.c),.int .u32 a.nxt,.bool a.hm,.int .u32 a.med,.bool a.hp,.int .u32 a.prf,.bool a.atm,cv] :=
  .cons (.refl rfl) (.cons h1 (.cons (.refl rfl) (.cons (.refl rfl) (.cons (.refl rfl) (.cons (.refl rfl) (.cons (.refl rfl) (.cons (.refl rfl) (.cons (.refl hcf) .nil))))))))
 refine ACalls.weakArgs (h s).1 (WeakL.pos 0 rfl (Weak.agg (WeakL.imp hi ?_)))
 rcases ho with ⟨hL,rfl⟩ | ⟨g,rfl,hg,hh⟩
 ·refine WeakL.nil 8 1 rfl (WeakL.pure ?_)
  have e:a.cms=[]:=List.map_eq_nil_iff.1 hL
  have ec:([.int .i64 a.org,.sl 2 (a.path.map Seg.c),.int .u32 a.nxt,.bool a.hm,.int .u32 a.med,.bool a.hp,.int .u32 a.prf,.bool a.atm,.nils]:List AV).set 8 (.sl 1 [])=a.c:=by simp [At.c,e]
  rw [ec]
  refine ⟨hf,WeakL.pure ?_⟩
  exact (h s).mono fun r s' ⟨x,y⟩=>⟨y,x ▸ Store.sub_trans hσ hs,fun q o hq _=>x ▸ hq⟩
 ·refine WeakL.freeze 8 rfl (hs _ _ hh) (by omega) (WeakL.pure ?_)
  have ec:([.int .i64 a.org,.sl 2 (a.path.map Seg.c),.int .u32 a.nxt,.bool a.hm,.int .u32 a.med,.bool a.hp,.int .u32 a.prf,.bool a.atm,.os g 1 0 (a.cms.map cU).length]:List AV).set 8 (.sl 1 (((a.cms.map cU).drop 0).take (a.cms.map cU).length))=a.c:=by rw [List.drop_zero,List.take_length];rfl
  rw [ec]
  refine ⟨hf,WeakL.pure ?_⟩
  refine (h (s.del g)).mono fun r s' ⟨x,y⟩=>⟨y,x ▸ sub_del (Store.sub_trans hσ hs) hg,fun q o hq hc => ?_⟩
  rw [x,Store.del_ne _ (fun e => ?_)]
  ·exact hq
  ·subst e
   rcases hc with hc | hc
   ·rw [hh] at hc;cases hc
   ·rw [hs _ _ hh] at hq;cases hq;exact hc _ rfl
set_option maxHeartbeats 1000000 in
theorem s42 {σ:Store} {B:List Int} {v:AV} (hr:Rd 1 σ (B.map cB) v) (hB:B.length≤1000000) (hu:U8s B) (inner:Bool):ACalls Tryz.prog 42 [v,.bool inner] σ (fun r s=>s=σ∧r=outD (decA inner B)):=by
 refine ze Tsr.F42 (by simp [Tsr.F42,Fn.mkX]) ?_
 simp only [Tsr.F42,Fn.mkX,Tsr.b42]
 rw [z6m]
 rw [show [AV.int .i64 0,.nils,.int .u32 0,.bool false,.int .u32 0,.bool false,.int .u32 0,.bool false,.nils]=zC from rfl,show [AV.int .i64 0,.int .i64 0,.nils]=zN from rfl]
 simp only [↓vcPre,↓z0,↓reduceIte,vcPost,vcStd,Nat.reduceEqDiff,reduceCtorEq,Nat.reduceAdd,Nat.reduceLeDiff,Int.reduceLT,Int.reduceLE,↓u_setN]
 refine AllocQ.i0 fun p4 h4 => ?_
 simp only [↓vcPre,↓z0,↓reduceIte,vcPost,vcStd,Nat.reduceEqDiff,reduceCtorEq,Nat.reduceAdd,Nat.reduceLeDiff,Int.reduceLT,Int.reduceLE,↓u_setN]
 refine AllocQ.i1 fun p6 h6 h46 h6s => ?_
 simp only [↓vcPre,↓z0,↓reduceIte,vcPost,vcStd,Nat.reduceEqDiff,reduceCtorEq,Nat.reduceAdd,Nat.reduceLeDiff,Int.reduceLT,Int.reduceLE,↓u_setN]
 have hvt:=hr.isTup
 have sT:Store.sub σ ((σ.set p4 (.box zC)).set p6 (.box zN)):=zq h4 h6s h6
 have T4:((σ.set p4 (.box zC)).set p6 (.box zN)) p4=some (.box zC):=by rw [Store.set_ne _ _ h46,Store.set_same]
 have T6:((σ.set p4 (.box zC)).set p6 (.box zN)) p6=some (.box zN):=Store.set_same _ _ _
 generalize (σ.set p4 (.box zC)).set p6 (.box zN)=T at sT T4 T6 ⊢
 have sp3:splice 0 [v] [.nils,.int .i64 0,.bool false]=some [v,.int .i64 0,.bool false]:=rfl
 simp only [hvt.1,hvt.2,sp3,↓vcPre,↓z0,↓reduceIte,vcPost,vcStd,Nat.reduceEqDiff,reduceCtorEq,Nat.reduceAdd,Nat.reduceLeDiff,Int.reduceLT,Int.reduceLE,↓u_setN]
 refine AllocQ.i0 fun p7 h7 => ?_
 simp only [↓vcPre,↓z0,↓reduceIte,vcPost,vcStd,Nat.reduceEqDiff,reduceCtorEq,Nat.reduceAdd,Nat.reduceLeDiff,Int.reduceLT,Int.reduceLE,↓u_setN]
 refine AllocQ.i1 fun p8 h87 h78 h8 => ?_
 have k4:¬ p4=p7:=fun e=>by rw [e,h7] at T4;cases T4
 have k6:¬ p6=p7:=fun e=>by rw [e,h7] at T6;cases T6
 have k48:¬ p4=p8:=fun e=>by rw [e,h8] at T4;cases T4
 have k68:¬ p6=p8:=fun e=>by rw [e,h8] at T6;cases T6
 have hσ7:=zj sT h7
 have hσ8:=zj sT h8
 simp only [↓vcPre,↓z0,↓reduceIte,vcPost,vcStd,Nat.reduceEqDiff,reduceCtorEq,Nat.reduceAdd,Nat.reduceLeDiff,Int.reduceLT,Int.reduceLE,↓u_setN]
 have sU:Store.sub T ((T.set p7 (.box [v,.int .i64 0,.bool false])).set p8 (.box zC)):=zq h7 h8 h87
 have U7:((T.set p7 (.box [v,.int .i64 0,.bool false])).set p8 (.box zC)) p7=some (.box [v,.int .i64 0,.bool false]):=by rw [Store.set_ne _ _ h78,Store.set_same]
 have U8:((T.set p7 (.box [v,.int .i64 0,.bool false])).set p8 (.box zC)) p8=some (.box zC):=Store.set_same _ _ _
 generalize (T.set p7 (.box [v,.int .i64 0,.bool false])).set p8 (.box zC)=U at sU U7 U8 ⊢
 refine AllocQ.i0 fun p9 h9 => ?_
 simp only [↓vcPre,↓z0,↓reduceIte,vcPost,vcStd,Nat.reduceEqDiff,reduceCtorEq,Nat.reduceAdd,Nat.reduceLeDiff,Int.reduceLT,Int.reduceLE,↓u_setN]
 refine AllocQ.i1 fun pt ht9 h9t ht => ?_
 have U4:=sU _ _ T4
 have U6:=sU _ _ T6
 have q4:¬ p4=p9:=fun e=>by rw [e,h9] at U4;cases U4
 have q6:¬ p6=p9:=fun e=>by rw [e,h9] at U6;cases U6
 have q7:¬ p7=p9:=fun e=>by rw [e,h9] at U7;cases U7
 have q8:¬ p8=p9:=fun e=>by rw [e,h9] at U8;cases U8
 have t4:¬ p4=pt:=fun e=>by rw [e,ht] at U4;cases U4
 have t6:¬ p6=pt:=fun e=>by rw [e,ht] at U6;cases U6
 have t7:¬ p7=pt:=fun e=>by rw [e,ht] at U7;cases U7
 have t8:¬ p8=pt:=fun e=>by rw [e,ht] at U8;cases U8
 have hσ9:=zj (Store.sub_trans sT sU) h9
 have hσt:=zj (Store.sub_trans sT sU) ht
 have sV:Store.sub U ((U.set p9 (.box (flags []))).set pt (.box (flags []))):=zq h9 ht ht9
 have V9:((U.set p9 (.box (flags []))).set pt (.box (flags []))) p9=some (.box (flags [])):=by rw [Store.set_ne _ _ h9t,Store.set_same]
 have Vt:((U.set p9 (.box (flags []))).set pt (.box (flags []))) pt=some (.box (flags [])):=Store.set_same _ _ _
 have V4:=sV _ _ U4
 have V6:=sV _ _ U6
 have V7:=sV _ _ U7
 have V8:=sV _ _ U8
 simp only [↓vcPre,↓z0,↓reduceIte,vcPost,vcStd,Nat.reduceEqDiff,reduceCtorEq,Nat.reduceAdd,Nat.reduceLeDiff,Int.reduceLT,Int.reduceLE,↓u_setN]
 generalize (U.set p9 (.box (flags []))).set pt (.box (flags []))=V at sV V9 Vt V4 V6 V7 V8 ⊢
 have sσ:=Store.sub_trans sT (Store.sub_trans sU sV)
 have hz:RZ σ v B σ p7 B false V:=⟨0,hσ7,sσ,Store.sub_refl _,V7,hr,by omega,by simp,by omega,hu⟩
 have zC9:zC.length=9:=rfl
 have bad:∀ (t:Store) (n:Nt),Store.sub σ t→decL inner B.length B zeroAt [] [] = .error n → @EndQ [(4,.ptr p4 0),(5,.sl 1 []),(6,.ptr p6 0)] ((t.set p4 (.box zeroAt.c)).set p6 (.box [.int .i64 3,.int .i64 n.1,.sl 1 (n.2.map cB)])) ⟨Tsr.F42.slots,fun r s=>s=σ∧r=outD (decA inner B)⟩:=by
  intro t n ht he
  refine EndQ.to σ (.tup [.agg zeroAt.c,.sl 1 [],.agg [.int .i64 3,.int .i64 n.1,.sl 1 (n.2.map cB)]]) ?_ (z8 (z8 ht h4) h6s) ⟨rfl,?_⟩
  ·show Env.res [(4,AV.ptr p4 0),(5,.sl 1 []),(6,AV.ptr p6 0)] _ [RS.c 4 9 true,RS.t 5,RS.c 6 3 true]=_
   simp only [h46,h6,Store.set_same,↓vcPre,↓z0,↓reduceIte,vcPost,vcStd,Nat.reduceEqDiff,reduceCtorEq,Nat.reduceAdd,Nat.reduceLeDiff,Int.reduceLT,Int.reduceLE,↓u_setN]
   rfl
  ·simp only [decA,he,outD]
 refine LoopQ.inv (S:=(List Int×At)×(List Int×List Int)×Store) (fun _=>[(0,v),(1,.bool inner),(4,.ptr p4 0),(6,.ptr p6 0),(7,.ptr p7 0),(8,.ptr p8 0),(9,.ptr p9 0),(10,.ptr pt 0)]) (fun w=>w.2.2)
  (fun w=>RZ σ v B σ p7 w.1.1 false w.2.2∧AJ σ p8 w.1.2 (8 ∉ w.2.1.1) w.2.2∧w.1.2.ok∧w.2.2 p4=some (.box zC)∧w.2.2 p6=some (.box zN)∧w.2.2 p9=some (.box (flags w.2.1.1))∧w.2.2 pt=some (.box (flags w.2.1.2))∧w.2.1.2.Nodup∧(∀ x ∈ w.2.1.2,x ∈ w.2.1.1∧0≤x∧x<256)∧decL inner w.1.1.length w.1.1 w.1.2 w.2.1.1 w.2.1.2=decL inner B.length B zeroAt [] [])
  (fun w=>w.1.1.length) ((B,zeroAt),([],[]),V) rfl (Store.sub_refl _) ⟨hz,⟨hσ8,sσ,.nils,.nils,V8,.inr ⟨rfl,rfl⟩,Own.nil,fun _=>⟨rfl,rfl⟩⟩,yq,V4,V6,V9,Vt,by simp,by simp,rfl⟩ ?_
 rintro ⟨⟨R,a⟩,⟨S,ty⟩,s⟩ ⟨i1,i2,i3,i4,i5,i6,i7,i8,i9,i10⟩
 simp only at i1 i2 i3 i4 i5 i6 i7 i8 i9 i10
 simp only [↓vcPre,↓z0,↓reduceIte,vcPost,vcStd,Nat.reduceEqDiff,reduceCtorEq,Nat.reduceAdd,Nat.reduceLeDiff,Int.reduceLT,Int.reduceLE,↓u_setN]
 refine (z7q i1).Q ?_
 rintro r s' ⟨rfl,rfl⟩
 simp only [Bool.false_eq_true,if_false]
 simp only [↓vcPre,↓z0,↓reduceIte,vcPost,vcStd,Nat.reduceEqDiff,reduceCtorEq,Nat.reduceAdd,Nat.reduceLeDiff,Int.reduceLT,Int.reduceLE,↓u_setN]
 have hσs:=i2.2.1
 refine ⟨fun c1 => ?_,fun c1 => ?_⟩
 ·obtain ⟨x0,R2,hR2⟩:∃ x r,R=x::r:=by cases R with | nil=>simp at c1 | cons x r=>exact ⟨x,r,rfl⟩
  obtain ⟨at0,y1,y2,y3,hp7,y4,hat,hR,y5,huB⟩:=i1
  have i1:RZ σ v B σ p7 R false s':=⟨at0,y1,y2,y3,hp7,y4,hat,hR,y5,huB⟩
  have huR:U8s R:=by rw [hR];exact huB.drop _
  have hRlen:R.length=B.length - at0:=by rw [hR,List.length_drop]
  have hstep:decL inner R.length R a S ty=match chunk R with
   | none => .error (1,[])
   | some c=>if c.kind ∈ S then .error (1,[]) else if c.kind=5∧inner=false then decL inner c.rest.length c.rest a (c.kind::S) ty
     else match stepA c a with | .error n => .error n | .ok a'=>decL inner c.rest.length c.rest a' (c.kind::S) (ty++[c.kind]):=by
   rw [hR2]
   show decL inner (R2.length+1) (x0::R2) a S ty=_
   simp only [decL]
   cases hc:chunk (x0::R2) with
   | none=>rfl
   | some c =>
     have hl:=wq hc
     simp only [List.length_cons] at hl
     have e:=fun a S ty=>ua inner R2.length c.rest.length c.rest a S ty (by omega) (Nat.le_refl _)
     simp only [e]
     rfl
  rw [i10] at hstep
  have hch:=z09 huR
  unfold chunkF chain at hch
  have hb:=i1.base
  simp only [hp7,↓vcPre,↓z0,↓reduceIte,vcPost,vcStd,Nat.reduceEqDiff,reduceCtorEq,Nat.reduceAdd,Nat.reduceLeDiff,Int.reduceLT,Int.reduceLE,↓u_setN]
  refine (z67 hb.1).Q ?_
  have n1:=yv (k:=1) (b:=false) huR
  generalize numM 1 R false=q at hch n1 ⊢
  obtain ⟨f,R3,b1⟩:=q
  simp only at hch n1
  rintro r s1 ⟨rfl,h1⟩
  simp only at h1
  simp only [↓vcPre,↓z0,↓reduceIte,vcPost,vcStd,Nat.reduceEqDiff,reduceCtorEq,Nat.reduceAdd,Nat.reduceLeDiff,Int.reduceLT,Int.reduceLE,↓u_setN]
  refine (z67 h1).Q ?_
  have n2:=yv (k:=1) (b:=b1) n1.1
  generalize numM 1 R3 b1=q at hch n2 ⊢
  obtain ⟨k,R4,b2⟩:=q
  simp only at hch n2
  rintro r s2 ⟨rfl,h2⟩
  simp only at h2
  have tail:∀ (n:Int) (R5:List Int) (b3:Bool) (s3:Store) (bo:AV),n<4294967296→RZ σ v B (s'.del p7) p7 R5 b3 s3 →
   ((chunk R=none∧(rawM n R5 b3).2.2=true)∨∃ c,chunk R=some c∧(f,k,n,(rawM n R5 b3).1,(rawM n R5 b3).2.1,(rawM n R5 b3).2.2)=(c.fl,c.kind,(c.val.length:Int),c.val,c.rest,false)∧c.all=R.take (R.length - c.rest.length)∧c.rest=R.drop (R.length - c.rest.length)∧c.rest.length<R.length) →
   ∀ (N Rr:Env→Store→Prop) (X:Nat→Env→Store→Prop),(∀ t nt,Store.sub σ t→decL inner B.length B zeroAt [] [] = .error nt→Rr [(4,.ptr p4 0),(5,.sl 1 []),(6,.ptr p6 0)] ((t.set p4 (.box zeroAt.c)).set p6 (.box [.int .i64 3,.int .i64 nt.1,.sl 1 (nt.2.map cB)]))) →
   (∀ (W1:List Int) (W2:At) (W3 W4:List Int) (t:Store),W1.length<R.length→(RZ σ v B σ p7 W1 false t∧AJ σ p8 W2 (8 ∉ W3) t∧At.ok W2∧t p4=some (.box zC)∧t p6=some (.box zN)∧t p9=some (.box (flags W3))∧t pt=some (.box (flags W4))∧W4.Nodup∧(∀ x ∈ W4,x ∈ W3∧0≤x∧x<256)∧decL inner W1.length W1 W2 W3 W4=decL inner B.length B zeroAt [] [])→(∀ E:Env,N ((0,v)::(1,.bool inner)::(4,.ptr p4 0)::(6,.ptr p6 0)::(7,.ptr p7 0)::(8,.ptr p8 0)::(9,.ptr p9 0)::(10,.ptr pt 0)::E) t)∧(∀ E:Env,X 1 ((0,v)::(1,.bool inner)::(4,.ptr p4 0)::(6,.ptr p6 0)::(7,.ptr p7 0)::(8,.ptr p8 0)::(9,.ptr p9 0)::(10,.ptr pt 0)::E) t)) →
   bwp Tryz.prog Tsr.t42_42 [(0,v),(1,.bool inner),(4,.ptr p4 0),(6,.ptr p6 0),(7,.ptr p7 0),(8,.ptr p8 0),(9,.ptr p9 0),(10,.ptr pt 0),(11,.int .i64 (at0:Int)),(12,.int .i64 f),(13,.int .i64 k),(14,.int .i64 n)] s3 N Rr X:=by
   intro n R5 b3 s3 bo hn h3 hcc N Rr X hret hgo
   simp only [Tsr.t42_42]
   simp only [↓vcPre,↓z0,↓reduceIte,vcPost,vcStd,Nat.reduceEqDiff,reduceCtorEq,Nat.reduceAdd,Nat.reduceLeDiff,Int.reduceLT,Int.reduceLE,↓u_setN]
   refine (z65 h3 n (by omega)).Q ?_
   generalize rawM n R5 b3=q at hcc ⊢
   obtain ⟨val,R6,b4⟩:=q
   simp only at hcc
   rintro r s4 ⟨rfl,h4'⟩
   simp only at h4'
   obtain ⟨at1,z1,z2,z3,hp4',z4,hat1,hR6,z5,z6⟩:=h4'
   have keep:∀ q o,q≠p7→s' q=some o→s4 q=some o:=fun q o hq h=>z2 _ _ (by rw [Store.del_ne _ hq];exact h)
   have σ4:Store.sub σ s4:=Store.sub_trans hb.2 z2
   have w4:=keep _ _ k4 i4
   have w6:=keep _ _ k6 i5
   have w9:=keep _ _ (fun e=>q7 e.symm) i6
   have wt:=keep _ _ (fun e=>t7 e.symm) i7
   have wA:AJ σ p8 a (8 ∉ S) s4:=by
    obtain ⟨q1,q2,pv,cv,q3,q4,q5,q6⟩:=i2
    refine ⟨q1,σ4,pv,cv,keep _ _ h87 q3,q4,?_,q6⟩
    rcases q5 with h | ⟨g,g1,g2,g3⟩
    ·exact .inl h
    ·exact .inr ⟨g,g1,g2,keep _ _ (fun e=>by rw [e,hp7] at g3;cases g3) g3⟩
   have szl:splice 0 zeroAt.c zC=some zeroAt.c:=rfl
   have szn:∀ x y z:AV,splice 0 [x,y,z] zN=some [x,y,z]:=fun _ _ _=>rfl
   have z9:zeroAt.c.length=9:=rfl
   rcases hcc with ⟨hn0,hb4⟩ | ⟨c,hc,he,hca,hcr,hcl⟩
   ·subst hb4
    rw [hn0] at hstep
    simp only [hp4',↓vcPre,↓z0,↓reduceIte,vcPost,vcStd,Nat.reduceEqDiff,reduceCtorEq,Nat.reduceAdd,Nat.reduceLeDiff,Int.reduceLT,Int.reduceLE,↓u_setN]
    refine (s85 (M:=[]) Rd.nils (by simp) 1).Q ?_
    rintro r t ⟨rfl,rfl⟩
    simp only [outD]
    simp only [w4,w6,h46,h6,z9,szl,szn,↓vcPre,↓z0,↓reduceIte,vcPost,vcStd,Nat.reduceEqDiff,reduceCtorEq,Nat.reduceAdd,Nat.reduceLeDiff,Int.reduceLT,Int.reduceLE,↓u_setN]
    exact hret _ (1,[]) σ4 hstep
   ·rw [hc] at hstep
    simp only at hstep
    have ck:=z55 huR hc
    have cu:=z0k huR hc
    simp only [Prod.mk.injEq] at he
    obtain ⟨rfl,rfl,rfl,rfl,rfl,rfl⟩:=he
    have hlen1:c.rest.length=B.length - at1:=by rw [hR6,List.length_drop]
    obtain ⟨wv,hwv,hrw⟩:=hr.slice (lo:=at0) (hi:=at1) (by omega) (by simp only [List.length_map];exact hat1)
    have hall:(List.take at1 (B.map cB)).drop at0=c.all.map cB:=by
     rw [hca,hR,←List.map_take,←List.map_drop,List.drop_take]
     congr 2
     simp only [List.length_drop];omega
    rw [hall] at hrw
    simp only [hp4',hwv,w9,↓vcPre,↓z0,↓reduceIte,vcPost,vcStd,Nat.reduceEqDiff,reduceCtorEq,Nat.reduceAdd,Nat.reduceLeDiff,Int.reduceLT,Int.reduceLE,↓u_setN]
    have hK:c.kind.toNat<256:=by omega
    have hKi:((c.kind.toNat:Nat):Int)=c.kind:=Int.toNat_of_nonneg ck.1
    rw [show 0+c.kind.toNat*1=c.kind.toNat by omega,z2a S hK,z2s S hK,hKi]
    refine ⟨ck,by rw [y8];omega,?_⟩
    by_cases hk:c.kind ∈ S
    ·rw [if_pos hk] at hstep
     rw [decide_eq_true hk]
     simp only [↓vcPre,↓z0,↓reduceIte,vcPost,vcStd,Nat.reduceEqDiff,reduceCtorEq,Nat.reduceAdd,Nat.reduceLeDiff,Int.reduceLT,Int.reduceLE,↓u_setN]
     refine (s85 (M:=[]) Rd.nils (by simp) 1).Q ?_
     rintro r t ⟨rfl,rfl⟩
     simp only [outD]
     simp only [w4,w6,h46,h6,z9,szl,szn,↓vcPre,↓z0,↓reduceIte,vcPost,vcStd,Nat.reduceEqDiff,reduceCtorEq,Nat.reduceAdd,Nat.reduceLeDiff,Int.reduceLT,Int.reduceLE,↓u_setN]
     exact hret _ (1,[]) σ4 hstep
    rw [if_neg hk] at hstep
    rw [decide_eq_false hk]
    simp only [↓vcPre,↓z0,↓reduceIte,vcPost,vcStd,Nat.reduceEqDiff,reduceCtorEq,Nat.reduceAdd,Nat.reduceLeDiff,Int.reduceLT,Int.reduceLE,↓u_setN]
    refine ⟨ck,?_⟩
    have hV':Store.sub σ (s4.set p9 (.box (flags (c.kind::S)))):=z8 σ4 hσ9
    have V9':(s4.set p9 (.box (flags (c.kind::S)))) p9=some (.box (flags (c.kind::S))):=Store.set_same _ _ _
    have V4':(s4.set p9 (.box (flags (c.kind::S)))) p4=some (.box zC):=by rw [Store.set_ne _ _ q4];exact w4
    have V6':(s4.set p9 (.box (flags (c.kind::S)))) p6=some (.box zN):=by rw [Store.set_ne _ _ q6];exact w6
    have Vt':(s4.set p9 (.box (flags (c.kind::S)))) pt=some (.box (flags ty)):=by rw [Store.set_ne _ _ ht9];exact wt
    have V7':(s4.set p9 (.box (flags (c.kind::S)))) p7=some (.box [v,.int .i64 (at1:Int),.bool false]):=by rw [Store.set_ne _ _ q7];exact hp4'
    have VA':AJ σ p8 a (8 ∉ S) (s4.set p9 (.box (flags (c.kind::S)))):=by
     obtain ⟨r1,r2,pv,cv,r3,r4,r5,r6⟩:=wA
     exact ⟨r1,hV',pv,cv,by rw [Store.set_ne _ _ q8];exact r3,r4,r5.setId w9 (fun M e=>by cases e),r6⟩
    generalize s4.set p9 (.box (flags (c.kind::S)))=Z at hV' V9' V4' V6' Vt' V7' VA' ⊢
    have fin:∀ (a':At) (ty':List Int) (t:Store),a'.ok→AJ σ p8 a' (8 ∉ c.kind::S) t→t pt=some (.box (flags ty'))→(∀ q o,q≠p8→q≠pt→Z q=some o→t q=some o)→ty'.Nodup→(∀ x ∈ ty',x ∈ c.kind::S∧0≤x∧x<256)→decL inner B.length B zeroAt [] []=decL inner c.rest.length c.rest a' (c.kind::S) ty' →
     (RZ σ v B σ p7 c.rest false t∧AJ σ p8 a' (8 ∉ c.kind::S) t∧At.ok a'∧t p4=some (.box zC)∧t p6=some (.box zN)∧t p9=some (.box (flags (c.kind::S)))∧t pt=some (.box (flags ty'))∧ty'.Nodup∧(∀ x ∈ ty',x ∈ c.kind::S∧0≤x∧x<256)∧decL inner c.rest.length c.rest a' (c.kind::S) ty'=decL inner B.length B zeroAt [] []):=by
     intro a' ty' t g1 g2 g3 gk g4 g5 g6
     exact ⟨⟨at1,hσ7,g2.2.1,Store.sub_refl _,gk _ _ h78 t7 V7',hr,hat1,hR6,y5,huB⟩,g2,g1,gk _ _ k48 t4 V4',gk _ _ k68 t6 V6',gk _ _ (fun e=>q8 e.symm) h9t V9',g3,g4,g5,g6.symm⟩
    refine ⟨fun e5 => ?_,fun e5 => ?_⟩
    ·cases hin:inner with
     | false =>
       simp only [↓vcPre,↓z0,↓reduceIte,vcPost,vcStd,Nat.reduceEqDiff,reduceCtorEq,Nat.reduceAdd,Nat.reduceLeDiff,Int.reduceLT,Int.reduceLE,↓u_setN]
       subst hin
       exact (hgo c.rest a (c.kind::S) ty Z hcl (fin a ty Z i3 (VA'.weak fun h h'=>h (List.mem_cons_of_mem _ h')) Vt' (fun _ _ _ _ h=>h) i8 (fun x hx=>⟨List.mem_cons_of_mem _ (i9 x hx).1,(i9 x hx).2⟩) (by rw [hstep,if_pos ⟨e5,rfl⟩]))).2 _
     | true =>
       simp only [↓vcPre,↓z0,↓reduceIte,vcPost,vcStd,Nat.reduceEqDiff,reduceCtorEq,Nat.reduceAdd,Nat.reduceLeDiff,Int.reduceLT,Int.reduceLE,↓u_setN]
       subst hin
       ·have hn5:¬ (c.kind=5∧true=false):=(by simp)
        refine z71 true c a ty (fr:=8 ∉ S) h46 h6 k48 k68 t4 t6 t8 hσt V4' V6' Vt' VA' (fun e h=>hk (e ▸ h)) ck.1 ck.2 (by omega) cu.1 (by omega) hrw (fun a' t g0 gA gt gk => ?_) (fun t nt g0 g1=>hret t nt g1 (by rw [hstep,if_neg hn5,g0]))
        exact hgo c.rest a' (c.kind::S) (ty++[c.kind]) t hcl (fin a' (ty++[c.kind]) t (u0 g0 i3 (by omega)) (gA.weak fun h=>⟨fun h'=>h (List.mem_cons_of_mem _ h'),fun e=>h (by rw [e];simp)⟩) (gt.trans (by rw [z29 (S:=c.kind::ty) (S':=ty++[c.kind]) (fun x=>by simp [or_comm])]))
         gk (by rw [List.nodup_append];exact ⟨i8,by simp,fun x hx y hy e=>by simp only [List.mem_singleton] at hy;subst hy;subst e;exact hk (i9 _ hx).1⟩) (fun x hx=>by rcases List.mem_append.1 hx with h | h;exact ⟨List.mem_cons_of_mem _ (i9 x h).1,(i9 x h).2⟩;simp only [List.mem_singleton] at h;subst h;exact ⟨by simp,ck⟩) (by rw [hstep,if_neg hn5,g0]))
    ·have hn5:¬ (c.kind=5∧inner=false):=fun h=>e5 h.1
     refine z71 inner c a ty (fr:=8 ∉ S) h46 h6 k48 k68 t4 t6 t8 hσt V4' V6' Vt' VA' (fun e h=>hk (e ▸ h)) ck.1 ck.2 (by omega) cu.1 (by omega) hrw (fun a' t g0 gA gt gk => ?_) (fun t nt g0 g1=>hret t nt g1 (by rw [hstep,if_neg hn5,g0]))
     exact hgo c.rest a' (c.kind::S) (ty++[c.kind]) t hcl (fin a' (ty++[c.kind]) t (u0 g0 i3 (by omega)) (gA.weak fun h=>⟨fun h'=>h (List.mem_cons_of_mem _ h'),fun e=>h (by rw [e];simp)⟩) (gt.trans (by rw [z29 (S:=c.kind::ty) (S':=ty++[c.kind]) (fun x=>by simp [or_comm])]))
      gk (by rw [List.nodup_append];exact ⟨i8,by simp,fun x hx y hy e=>by simp only [List.mem_singleton] at hy;subst hy;subst e;exact hk (i9 _ hx).1⟩) (fun x hx=>by rcases List.mem_append.1 hx with h | h;exact ⟨List.mem_cons_of_mem _ (i9 x h).1,(i9 x h).2⟩;simp only [List.mem_singleton] at h;subst h;exact ⟨by simp,ck⟩) (by rw [hstep,if_neg hn5,g0]))
  simp only [↓vcPre,↓z0,↓reduceIte,vcPost,vcStd,Nat.reduceEqDiff,reduceCtorEq,Nat.reduceAdd,Nat.reduceLeDiff,Int.reduceLT,Int.reduceLE,↓u_setN]
  refine ⟨fun g => ?_,fun g => ?_⟩
  ·rw [show (if andI f 16=0 then numM 1 R4 b2 else numM 2 R4 b2)=numM 2 R4 b2 from if_neg g] at hch
   refine (z66 h2).Q ?_
   have n3:=x4 (k:=2) (by omega) (R:=R4) (bad:=b2) n2.1
   rintro r s3 ⟨rfl,h3⟩
   simp only [↓vcPre,↓z0,↓reduceIte,vcPost,vcStd,Nat.reduceEqDiff,reduceCtorEq,Nat.reduceAdd,Nat.reduceLeDiff,Int.reduceLT,Int.reduceLE,↓u_setN]
   exact tail _ _ _ s3 .nil n3.2 h3 hch _ _ _ (fun t nt g1 g2=>bad t nt g1 g2) (fun W1 W2 W3 W4 t hl hI=>⟨fun E=>NextQ.to ((W1,W2),(W3,W4),t) rfl (Store.sub_refl _) hl hI,fun E=>by rw [if_pos rfl];exact NextQ.to ((W1,W2),(W3,W4),t) rfl (Store.sub_refl _) hl hI⟩)
  ·rw [show (if andI f 16=0 then numM 1 R4 b2 else numM 2 R4 b2)=numM 1 R4 b2 from if_pos g] at hch
   refine (z67 h2).Q ?_
   have n3:=x4 (k:=1) (by omega) (R:=R4) (bad:=b2) n2.1
   rintro r s3 ⟨rfl,h3⟩
   simp only [↓vcPre,↓z0,↓reduceIte,vcPost,vcStd,Nat.reduceEqDiff,reduceCtorEq,Nat.reduceAdd,Nat.reduceLeDiff,Int.reduceLT,Int.reduceLE,↓u_setN]
   exact tail _ _ _ s3 .nil n3.2 h3 hch _ _ _ (fun t nt g1 g2=>bad t nt g1 g2) (fun W1 W2 W3 W4 t hl hI=>⟨fun E=>NextQ.to ((W1,W2),(W3,W4),t) rfl (Store.sub_refl _) hl hI,fun E=>by rw [if_pos rfl];exact NextQ.to ((W1,W2),(W3,W4),t) rfl (Store.sub_refl _) hl hI⟩)
 ·have hR0:R=[]:=by cases R with | nil=>rfl | cons x r=>simp at c1
  subst hR0
  have hfin:decL inner B.length B zeroAt [] [] = .ok (a,ty):=by rw [←i10];rfl
  simp only [Tsr.t42_19]
  simp only [↓vcPre,↓z0,↓reduceIte,vcPost,vcStd,Nat.reduceEqDiff,reduceCtorEq,Nat.reduceAdd,Nat.reduceLeDiff,Int.reduceLT,Int.reduceLE,↓u_setN]
  refine LoopQ.inv (S:=Nat×List Int×AV×Store) (fun w=>[(4,.ptr p4 0),(6,.ptr p6 0),(8,.ptr p8 0),(10,.ptr pt 0),(19,w.2.2.1),(20,.int .i64 (w.1:Int))]) (fun w=>w.2.2.2) (fun w=>w.1≤256∧Store.sub s' w.2.2.2∧Own 1 s' (w.2.1.map cI) w.2.2.1 w.2.2.2∧w.2.1=selN ty w.1) (fun w=>257 - w.1) (0,[],.nils,s') rfl (Store.sub_refl _) ⟨by simp,Store.sub_refl _,Own.nil,rfl⟩ ?_
  rintro ⟨k,l,lv,t⟩ ⟨m1,m2,m3,m4⟩
  simp only at m1 m2 m3 m4
  have ht:=m2 _ _ i7
  simp only [ht,↓vcPre,↓z0,↓reduceIte,vcPost,vcStd,Nat.reduceEqDiff,reduceCtorEq,Nat.reduceAdd,Nat.reduceLeDiff,Int.reduceLT,Int.reduceLE,↓u_setN]
  refine ⟨fun d1 => ?_,fun d1 => ?_⟩
  ·have hk:k<256:=by omega
   have ei:IntKind.i64.wrap ((k:Int)+1)=((k+1:Nat):Int):=by rw [zb (by unfold I64;omega)];omega
   have hll:l.length≤k:=by rw [m4];exact z8r ty k
   refine ⟨hk,by rw [y8];omega,?_⟩
   rw [show 0+k*1=k by omega,z2a ty hk]
   by_cases hm:(k:Int) ∈ ty
   ·rw [decide_eq_true hm]
    simp only [↓vcPre,↓z0,↓reduceIte,vcPost,vcStd,Nat.reduceEqDiff,reduceCtorEq,Nat.reduceAdd,Nat.reduceLeDiff,Int.reduceLT,Int.reduceLE,↓u_setN]
    refine AllocQ.i0 fun b hb => ?_
    simp only [↓vcPre,↓z0,↓reduceIte,vcPost,vcStd,Nat.reduceEqDiff,reduceCtorEq,Nat.reduceAdd,Nat.reduceLeDiff,Int.reduceLT,Int.reduceLE,↓u_setN]
    have hsb:=Store.sub_set t b (.arr 1 [[.int .i64 (k:Int)]]) hb
    refine Own.appM (τ:=s') (bytes:=8) (Store.sub_trans m2 hsb) (m3.mono hsb) (zr (Store.set_same _ _ _) rfl) (by simp;omega) fun v' t' ht' ho' => ?_
    rw [ei]
    exact NextQ.to (k+1,l++[(k:Int)],v',t') rfl (Store.sub_refl _) (by simp only;omega) ⟨by simp only;omega,ht',by simpa [cI] using ho',by show l++[(k:Int)]=selN ty (k+1);rw [z2j,if_pos hm,←m4]⟩
   ·rw [decide_eq_false hm]
    simp only [↓vcPre,↓z0,↓reduceIte,vcPost,vcStd,Nat.reduceEqDiff,reduceCtorEq,Nat.reduceAdd,Nat.reduceLeDiff,Int.reduceLT,Int.reduceLE,↓u_setN]
    rw [ei]
    exact NextQ.to (k+1,l,lv,t) rfl (Store.sub_refl _) (by simp only;omega) ⟨by simp only;omega,m2,m3,by show l=selN ty (k+1);rw [z2j,if_neg hm,List.append_nil];exact m4⟩
  ·have hk:k=256:=by omega
   subst hk
   rw [z46 i8 (fun x hx=>(i9 x hx).2)] at m4
   obtain ⟨r1,r2,pv,cv,r3,r4,r5,r6⟩:=i2
   simp only [Tsr.t42_144]
   simp only [m2 _ _ r3,↓vcPre,↓z0,↓reduceIte,vcPost,vcStd,Nat.reduceEqDiff,reduceCtorEq,Nat.reduceAdd,Nat.reduceLeDiff,Int.reduceLT,Int.reduceLE,↓u_setN]
   refine (zfx r4 r5 r2 m2 (c41 a i3)).Q ?_
   rintro r t' ⟨rfl,hσt,hkp⟩
   have w4:=hkp _ _ (m2 _ _ i4) (.inr fun L e=>by cases e)
   have w6:=hkp _ _ (m2 _ _ i5) (.inr fun L e=>by cases e)
   have e9:∀ x:At,x.c.length=9:=fun _=>rfl
   have spZ:∀ x:At,splice 0 x.c zC=some x.c:=fun _=>rfl
   have snn:splice 0 zN zN=some zN:=rfl
   have z3:zN.length=3:=rfl
   have snl:splice 0 [.int .i64 0,.int .i64 0,.nils] zN=some zN:=rfl
   have ho:Own 1 σ (l.map cI) lv t':=by
    rcases m3 with h | ⟨g,g1,g2,g3⟩
    ·exact .inl h
    ·exact .inr ⟨g,g1,zj hσs g2,hkp _ _ g3 (.inl g2)⟩
   have ho2:Own 1 σ (l.map cI) lv ((t'.set p4 (.box (canonA a).c)).set p6 (.box zN)):=(ho.setId w4 (fun M e=>by cases e)).setId (by rw [Store.set_ne _ _ h6];exact w6) (fun M e=>by cases e)
   simp only [w4,w6,h46,h6,e9,spZ,snn,z3,snl,↓vcPre,↓z0,↓reduceIte,vcPost,vcStd,Nat.reduceEqDiff,reduceCtorEq,Nat.reduceAdd,Nat.reduceLeDiff,Int.reduceLT,Int.reduceLE,↓u_setN]
   refine EndQ.threeS (cs:=(canonA a).c) (cs':=(canonA a).c) (ns:=zN) (ns':=[.int .i64 0,.int .i64 0,.sl 1 []]) (tv:=lv) (L:=l.map cI) ?_ (ImpL.refl _ (fun c hc => ?_)) (.cons (.refl rfl) (.cons (.refl rfl) (.cons .nils .nil))) ho2 (z8 (z8 hσt h4) h6s) ⟨rfl,?_⟩
   ·show Env.res [(4,AV.ptr p4 0),(5,lv),(6,AV.ptr p6 0)] _ [RS.c 4 9 true,RS.t 5,RS.c 6 3 true]=_
    simp only [h46,h6,Store.set_same,↓vcPre,↓z0,↓reduceIte,vcPost,vcStd,Nat.reduceEqDiff,reduceCtorEq,Nat.reduceAdd,Nat.reduceLeDiff,Int.reduceLT,Int.reduceLE,↓u_setN]
    rfl
   ·simp only [At.c,List.mem_cons,List.not_mem_nil,or_false] at hc
    rcases hc with rfl | rfl | rfl | rfl | rfl | rfl | rfl | rfl | rfl <;> rfl
   ·simp only [decA,hfin,outD,m4]
end Go.Am
namespace Go.Am.Tsz
open Go.Proofs Go.Am.B
def t57_41:BC := .ops [m 41 5,m 42 7,m 43 6,g 44 96 [.t 42,.t 43],⟨some 45,none,.alloc (.mksl 2 1),[.t 44]⟩,⟨some 46,none,.loud (.app 2 16),[.t 41,.t 45]⟩,m 5 46] [4,5]
def b57:BC:=z [k 2 .nils,k 3 (.bool false)] [0] (z [m 10 0,g 11 51 [.t 10],m 4 11] [4] (z [k 5 .nils] [4,5] (.seq (.block 0 (.loop [4,5] (.seq (z [m 12 4,g 13 54 [.t 12],c 14 .gtr 13 0] [4,5,14] (.cond (.t 14) .skip (.exit 0))) (.block 1 (z [m 15 4,g 16 95 [.t 15],m 6 16] [4,5,6] (z [k 7 (.int .u32 0)] [4,5,6,7] (.seq (z [m 17 6,c 18 .gtr 17 32] [4,5,6,7,18] (.cond (.t 18) (z [k 2 .nils,k 3 (.bool false)] [2,3] .ret) .skip)) (.seq (z [m 19 4,m 20 6,c 21 .add 20 8,c 22 .sub 21 1,c 23 .quo 22 8,g 24 52 [.t 19,.t 23],u 25 .len 24,j 26 0] [4,5,6,7,24,25,26] (.block 2 (.loop [4,5,6,7,24,25,26] (z [b 27 .lss 26 25] [4,5,6,7,24,25,26,27] (.seq (.cond (.t 27) .skip (.exit 2)) (.seq (.block 3 (z [m 28 26,x 29 1 24 26,l 30 1 29,m 8 28,m 9 30] [4,5,6,7,8,9,24,25,26] (.ops [m 31 7,m 32 9,u 33 (.conv .u32) 32,m 34 8,c 35 .add 34 1,p 36 (.bin .mul) [.c (.int .i64 8),.t 35],p 37 (.bin .sub) [.c (.int .i64 32),.t 36],b 38 .shl 33 37,b 39 .or 31 38,m 7 39] [4,5,6,7,24,25,26]))) (.ops [c 40 .add 26 1,m 26 40] [4,5,6,7,24,25,26]))))))) t57_41)))))))) (.seq (z [m 47 4,g 48 55 [.t 47],u 49 .not 48] [5,49] (.cond (.t 49) (z [k 2 .nils,k 3 (.bool false)] [2,3] .ret) .skip)) (z [m 50 5,m 2 50,k 3 (.bool true)] [2,3] .ret)))))
def F57:Fn Tryz.prog 57:=Fn.mkX false b57 [.t 2,.t 3] 51 Tryz.f57 _ Tryz.func57 (by decide) rfl Tryz.ntmps57 (by kernel_rfl) (by kernel_rfl)
def b91:BC:=z [k 2 .nils,k 3 (.bool false)] [0] (z [m 9 0,p 10 (.build [.nils,(.int .i64 0),(.bool false)] [(0,1)]) [.t 9],⟨some 11,none,.alloc (.box),[.t 10]⟩,m 4 11] [4] (z [k 5 .nils] [4,5] (.seq (.block 0 (.loop [4,5] (.seq (z [m 12 4,g 13 81 [.t 12],c 14 .gtr 13 0] [4,5,14] (.cond (.t 14) .skip (.exit 0))) (.block 1 (z [m 15 4,g 16 82 [.t 15],m 6 16] [4,5,6] (.seq (z [m 17 6,c 18 .gtr 17 32] [4,5,6,18] (.cond (.t 18) (z [k 2 .nils,k 3 (.bool false)] [2,3] .ret) .skip)) (z [m 19 4,m 20 6,c 21 .add 20 7,c 22 .quo 21 8,g 23 84 [.t 19,.t 22],m 7 23] [4,5,6,7] (.seq (z [m 24 4,u 25 .nilchk 24,f 26 2 25,l 27 1 26] [4,5,6,7,27] (.cond (.t 27) (z [k 2 .nils,k 3 (.bool false)] [2,3] .ret) .skip)) (z [m 28 7,⟨some 29,none,.alloc (.mksl 1 4),[.c (.int .u8 0),.c (.int .u8 0),.c (.int .u8 0),.c (.int .u8 0)]⟩,⟨some 30,none,.loud (.app 1 1),[.t 28,.t 29]⟩,p 31 (.build [.nils,(.int .i64 0),(.bool false)] [(0,1)]) [.t 30],⟨some 32,none,.alloc (.box),[.t 31]⟩,m 8 32] [4,5,6,8] (.ops [m 33 5,m 34 8,g 35 127 [.t 34],m 36 6,g 37 89 [.t 35,.t 36],⟨some 38,none,.alloc (.mksl 2 1),[.t 37]⟩,⟨some 39,none,.loud (.app 2 16),[.t 33,.t 38]⟩,m 5 39] [4,5])))))))))) (z [m 40 5,m 2 40,k 3 (.bool true)] [2,3] .ret))))
def F91:Fn Tryz.prog 91:=Fn.mkX false b91 [.t 2,.t 3] 41 Tryz.f91 _ Tryz.func91 (by decide) rfl Tryz.ntmps91 (by kernel_rfl) (by kernel_rfl)
end Go.Am.Tsz
namespace Go.Am
open Go.Proofs Go.Sort
def outN (x:Option (List (Int×Int))):AV:=match x with
 | some l => .tup [.sl 2 (l.map pxC),.bool true]
 | none => .tup [.sl 2 [],.bool false]
theorem u5 {n:Int} (h0:0≤n) (h:n≤32):szN n≤4:=by unfold szN;omega
set_option maxHeartbeats 1000000 in
theorem s57 {σ:Store} {B:List Int} {v:AV} (hr:Rd 1 σ (B.map cB) v) (hB:B.length≤1000000) (hu:U8s B):ACalls Tryz.prog 57 [v] σ (fun r s=>s=σ∧r=outN (dN B)):=by
 refine ze Tsz.F57 (by simp [Tsz.F57,Fn.mkX]) ?_
 simp only [Tsz.F57,Fn.mkX,Tsz.b57]
 simp only [↓vcPre,↓z0,↓reduceIte,vcPost,vcStd,Nat.reduceEqDiff,reduceCtorEq,Nat.reduceAdd,Nat.reduceLeDiff,Int.reduceLT,Int.reduceLE,↓u_setN]
 refine (s51 hr (by omega)).Q ?_
 rintro r s ⟨id,rfl,h⟩
 simp only [↓vcPre,↓z0,↓reduceIte,vcPost,vcStd,Nat.reduceEqDiff,reduceCtorEq,Nat.reduceAdd,Nat.reduceLeDiff,Int.reduceLT,Int.reduceLE,↓u_setN]
 refine LoopQ.inv (S:=List Int×Bool×List (Int×Int)×AV×Store) (fun q=>[(4,.ptr id 0),(5,q.2.2.2.1)]) (fun q=>q.2.2.2.2)
  (fun q=>RP σ id q.1 q.2.1 q.2.2.2.2∧Own 2 σ (q.2.2.1.map pxC) q.2.2.2.1 q.2.2.2.2∧q.2.2.1.length+q.1.length≤B.length+1∧U8s q.1∧q.1.length≤B.length∧((q.2.1=false∧q.2.2.1.length+q.1.length≤B.length∧dN B=(dN q.1).map (q.2.2.1 ++ ·))∨(q.2.1=true∧dN B=none)))
  (fun q=>if q.2.1 then 0 else q.1.length+1) (B,false,[],.nils,s) rfl (Store.sub_refl _) ⟨h,.nil,by simp,hu,Nat.le_refl _,.inl ⟨rfl,by simp,by simp⟩⟩ ?_
 rintro ⟨R,bad,l,av,s⟩ ⟨h,ho,hl,hR,hRM,hj⟩
 simp only at h ho hl hR hRM hj
 simp only [↓vcPre,↓z0,↓reduceIte,vcPost,vcStd,Nat.reduceEqDiff,reduceCtorEq,Nat.reduceAdd,Nat.reduceLeDiff,Int.reduceLT,Int.reduceLE,↓u_setN]
 refine (s54 h).Q ?_
 rintro r s' ⟨rfl,rfl⟩
 simp only [↓vcPre,↓z0,↓reduceIte,vcPost,vcStd,Nat.reduceEqDiff,reduceCtorEq,Nat.reduceAdd,Nat.reduceLeDiff,Int.reduceLT,Int.reduceLE,↓u_setN]
 refine ⟨fun c1 => ?_,fun c1 => ?_⟩
 ·obtain ⟨rfl,hlen,hd⟩:bad=false∧l.length+R.length≤B.length∧dN B=(dN R).map (l ++ ·):=by
   rcases hj with hj | ⟨hb,_⟩
   ·exact hj
   ·rw [hb] at c1;simp at c1
  match R,hR,h,hRM,hlen,hd,hl with
  | [],_,_,_,_,_,_=>simp at c1
  | n::R,hR,h,hRM,hlen,hd,hl =>
  have hn:=hR n (by simp)
  have hRu:U8s R:=fun x hx=>hR x (by simp [hx])
  obtain ⟨hb1,hb2⟩:=h.base
  refine (s95 hb1 (by simp at hRM ⊢;omega) hR).Q ?_
  rintro r s2 ⟨rfl,h2⟩
  have hov:=(ho.delBox h.2.2).mono h2.2.1
  rw [xf] at h2 ⊢
  simp only at h2
  simp only [↓vcPre,↓z0,↓reduceIte,vcPost,vcStd,Nat.reduceEqDiff,reduceCtorEq,Nat.reduceAdd,Nat.reduceLeDiff,Int.reduceLT,Int.reduceLE,↓u_setN]
  refine ⟨fun c2 => ?_,fun c2 => ?_⟩
  ·refine EndQ.twoNil _ 2 σ rfl (Store.sub_trans hb2 h2.2.1) ⟨rfl,?_⟩
   rw [hd,xw,if_pos c2];rfl
  ·have w1:IntKind.i64.wrap (n+8)=n+8:=zb (by unfold I64;omega)
   have w2:IntKind.i64.wrap (n+8 - 1)=n+8 - 1:=zb (by unfold I64;omega)
   have w3:IntKind.i64.wrap ((n+8 - 1).tdiv 8)=(szN n:Int):=by
    rw [Int.tdiv_eq_ediv_of_nonneg (by omega),zb (by unfold I64;omega)]
    unfold szN;omega
   simp only [w1,w2,w3,↓vcPre,↓z0,↓reduceIte,vcPost,vcStd,Nat.reduceEqDiff,reduceCtorEq,Nat.reduceAdd,Nat.reduceLeDiff,Int.reduceLT,Int.reduceLE,↓u_setN]
   refine ⟨by decide,?_⟩
   obtain ⟨hb3,hb4⟩:=h2.base
   refine (s52 hb3 (by simp at hRM;omega) (szN n:Int)).Q ?_
   rintro r s3 ⟨rfl,h3⟩
   have hov3:=(hov.delBox h2.2.2).mono h3.2.1
   have hsz:=u5 hn.1 (by omega:n≤32)
   have hraw:(rawM (szN n:Int) R false).1.length≤4:=by have:=v9 (k:=szN n) (R:=R) (bad:=false);omega
   have hrau:=(xe (n:=(szN n:Int)) (bad:=false) hRu).1
   have hσ3:Store.sub σ s3:=Store.sub_trans hb2 (Store.sub_trans hb4 h3.2.1)
   obtain ⟨W,hW⟩:∃ W,W=(rawM (szN n:Int) R false).1:=⟨_,rfl⟩
   rw [←hW] at hraw hrau ⊢
   simp only [↓vcPre,↓z0,↓reduceIte,vcPost,vcStd,Nat.reduceEqDiff,reduceCtorEq,Nat.reduceAdd,Nat.reduceLeDiff,Int.reduceLT,Int.reduceLE,↓u_setN]
   have wl:IntKind.i64.wrap ((W.length:Nat):Int)=(W.length:Int):=zb (by unfold I64;omega)
   refine LoopQ.inv (S:=Nat) (fun k=>[(4,.ptr id 0),(5,av),(6,.int .i64 n),(7,.int .u32 (val4 (W.take k))),(24,.sl 1 (W.map cB)),(25,.int .i64 (W.length:Int)),(26,.int .i64 (k:Int))]) (fun _=>s3) (fun k=>k≤W.length) (fun k=>W.length+1 - k) 0 rfl (Store.sub_refl _) (by omega) ?_
   intro k hk
   simp only [↓vcPre,↓z0,↓reduceIte,vcPost,vcStd,Nat.reduceEqDiff,reduceCtorEq,Nat.reduceAdd,Nat.reduceLeDiff,Int.reduceLT,Int.reduceLE,↓u_setN]
   refine ⟨fun c3 => ?_,fun c3 => ?_⟩
   ·have hx:=hrau _ (List.getElem_mem c3)
    have ek:IntKind.i64.wrap ((k:Int)+1)=((k+1:Nat):Int):=by rw [zb (by unfold I64;omega)];omega
    have e8:IntKind.i64.wrap (8*((k+1:Nat):Int))=8*((k:Int)+1):=by rw [zb (by unfold I64;omega)];omega
    have e32:IntKind.i64.wrap (32 - 8*((k:Int)+1))=32 - 8*((k:Int)+1):=zb (by unfold I64;omega)
    have ex:IntKind.u32.wrap (W[k])=W[k]:=by rw [z0t];omega
    simp only [cB,ek,e8,e32,ex,z7k hrau c3 (by omega),↓vcPre,↓z0,↓reduceIte,vcPost,vcStd,Nat.reduceEqDiff,reduceCtorEq,Nat.reduceAdd,Nat.reduceLeDiff,Int.reduceLT,Int.reduceLE,↓u_setN]
    exact ⟨c3,by omega,NextQ.to (k+1) rfl (Store.sub_refl _) (by omega) (by omega)⟩
   ·have hkE:k=W.length:=by omega
    subst hkE
    rw [List.take_length]
    simp only [Tsz.t57_41]
    simp only [↓vcPre,↓z0,↓reduceIte,vcPost,vcStd,Nat.reduceEqDiff,reduceCtorEq,Nat.reduceAdd,Nat.reduceLeDiff,Int.reduceLT,Int.reduceLE,↓u_setN]
    refine (c96 (val4 W) n (by unfold I64;omega)).Q ?_
    simp only [↓vcPre,↓z0,↓reduceIte,vcPost,vcStd,Nat.reduceEqDiff,reduceCtorEq,Nat.reduceAdd,Nat.reduceLeDiff,Int.reduceLT,Int.reduceLE,↓u_setN]
    refine AllocQ.i0 fun b hb => ?_
    simp only [↓vcPre,↓z0,↓reduceIte,vcPost,vcStd,Nat.reduceEqDiff,reduceCtorEq,Nat.reduceAdd,Nat.reduceLeDiff,Int.reduceLT,Int.reduceLE,↓u_setN]
    have hsb:=Store.sub_set s3 b (.arr 2 [[.int .u32 (ofF (val4 W) n).1,.int .i64 (ofF (val4 W) n).2]]) hb
    have h4:=((h3.weak hb4).weak hb2).mono hsb
    refine Own.appK (τ:=σ) h4.2.1 (hov3.mono hsb) (zr (Store.set_same _ _ _) rfl) (by simp at hl ⊢;omega) fun v' s4 hs4 ho4 hk4 => ?_
    have h5:RP σ id (rawM (szN n:Int) R false).2.1 (rawM (szN n:Int) R false).2.2 s4:=⟨h4.1,hs4,hk4 _ _ h4.2.2 (fun M e=>by cases e)⟩
    have ho5:Own 2 σ ((l++[ofF (val4 W) n]).map pxC) v' s4:=by simpa [pxC] using ho4
    by_cases hs:R.length<szN n
    ·have e:rawM (szN n:Int) R false=([],R,true):=by
      unfold rawM;rw [if_pos (by right;omega)]
     rw [e] at h5
     refine NextQ.to (R,true,l++[ofF (val4 W) n],v',s4) rfl (Store.sub_refl _) (by simp) ⟨h5,ho5,by simp at hl ⊢;omega,hRu,by simp at hRM ⊢;omega,.inr ⟨rfl,?_⟩⟩
     rw [hd,xw,if_neg c2,if_pos hs];rfl
    ·have e:=xt (n:=(szN n:Int)) (R:=R) (by omega) (by omega)
     rw [Int.toNat_natCast] at e
     rw [e] at h5 hW
     simp only at hW
     refine NextQ.to (R.drop (szN n),false,l++[ofF (val4 W) n],v',s4) rfl (Store.sub_refl _) (by simp;omega) ⟨h5,ho5,by simp at hl ⊢;omega,hRu.drop _,by simp at hRM ⊢;omega,.inl ⟨rfl,by simp at hlen ⊢;omega,?_⟩⟩
     rw [hd,xw,if_neg c2,if_neg hs,←hW,Option.map_map]
     congr 1
     funext x
     simp
 ·refine (s55 h).Q ?_
  rintro r s2 ⟨rfl,rfl⟩
  rcases hj with ⟨rfl,_,hd⟩ | ⟨rfl,hd⟩
  ·simp only [↓vcPre,↓z0,↓reduceIte,vcPost,vcStd,Nat.reduceEqDiff,reduceCtorEq,Nat.reduceAdd,Nat.reduceLeDiff,Int.reduceLT,Int.reduceLE,↓u_setN]
   have hR0:R=[]:=by
    cases R with
    | nil=>rfl
    | cons x R=>simp at c1
   rw [hR0,vq,Option.map_some,List.append_nil] at hd
   exact EndQ.ownTwo rfl ho h.2.1 ⟨rfl,by rw [hd];rfl⟩
  ·simp only [↓vcPre,↓z0,↓reduceIte,vcPost,vcStd,Nat.reduceEqDiff,reduceCtorEq,Nat.reduceAdd,Nat.reduceLeDiff,Int.reduceLT,Int.reduceLE,↓u_setN]
   exact EndQ.twoNil _ 2 σ rfl h.2.1 ⟨rfl,by rw [hd];rfl⟩
theorem ze4 {σ τ s:Store} {v:AV} {B:List Int} {id:Nat} {R:List Int} {lack:Bool} (h:RZ σ v B τ id R lack s) (n:Int) (hn:n≤1000000000000):ACalls Tryz.prog 84 [.ptr id 0,.int .i64 n] s (fun r s'=>Own 1 s ((rawM n R lack).1.map cB) r s'∧(∀ q o,q≠id→s q=some o→s' q=some o)∧RZ σ v B τ id (rawM n R lack).2.1 (rawM n R lack).2.2 s'):=by
 obtain ⟨at_,hf,rfl,h1,h2,h3,h4⟩:=h.rf
 refine (zcg hf h1 n hn).mono fun r s' ⟨a,c,b⟩=>⟨a,c,?_⟩
 have:=RZ.of b h1 h2 h3 h4
 rw [←List.drop_drop,←xy] at this
 exact this
theorem RZ.at {σ τ s:Store} {v:AV} {B:List Int} {id:Nat} {R:List Int} {lack:Bool} (h:RZ σ v B τ id R lack s):∃ n:Nat,s id=some (.box [v,.int .i64 (n:Int),.bool lack]):=by
 obtain ⟨n,_,_,_,h4,_⟩:=h;exact ⟨n,h4⟩
theorem Own.others {esz id:Nat} {σ s s':Store} {L:List (List AV)} {v:AV} {c:List AV} (h:Own esz σ L v s) (hid:s id=some (.box c)) (hk:∀ q o,q≠id→s q=some o→s' q=some o):Own esz σ L v s':=by
 rcases h with h | ⟨g,h1,h2,h3⟩
 ·exact .inl h
 ·exact .inr ⟨g,h1,h2,hk g _ (fun e=>by rw [e,hid] at h3;cases h3) h3⟩
theorem z8i {W:List Int} (h:W.length≤4):(numM 4 (W++[0,0,0,0]) false).1=val4 W:=by
 match W,h with
 | [],_=>rfl
 | [a],_=>obtain ⟨x,h1,h2,_⟩:=xi (R:=[a,0,0,0,0]) (by simp);simp only [List.cons_append,List.nil_append];rw [h1];simp [words] at h2;simp [val4,h2]
 | [a,b],_=>obtain ⟨x,h1,h2,_⟩:=xi (R:=[a,b,0,0,0,0]) (by simp);simp only [List.cons_append,List.nil_append];rw [h1];simp [words] at h2;simp [val4,h2]
 | [a,b,c],_=>obtain ⟨x,h1,h2,_⟩:=xi (R:=[a,b,c,0,0,0,0]) (by simp);simp only [List.cons_append,List.nil_append];rw [h1];simp [words] at h2;simp [val4,h2]
 | [a,b,c,d],_=>obtain ⟨x,h1,h2,_⟩:=xi (R:=[a,b,c,d,0,0,0,0]) (by simp);simp only [List.cons_append,List.nil_append];rw [h1];simp [words] at h2;simp [val4,h2]
set_option maxHeartbeats 1000000 in
theorem s91 {σ:Store} {B:List Int} {v:AV} (hr:Rd 1 σ (B.map cB) v) (hB:B.length≤1000000) (hu:U8s B):ACalls Tryz.prog 91 [v] σ (fun r s=>s=σ∧r=outN (dN B)):=by
 refine ze Tsz.F91 (by simp [Tsz.F91,Fn.mkX]) ?_
 simp only [Tsz.F91,Fn.mkX,Tsz.b91]
 have htv:=hr.isTup
 simp only [htv.1,htv.2,↓vcPre,↓z0,↓reduceIte,vcPost,vcStd,Nat.reduceEqDiff,reduceCtorEq,Nat.reduceAdd,Nat.reduceLeDiff,Int.reduceLT,Int.reduceLE,↓u_setN]
 refine AllocQ.i0 fun id hid => ?_
 simp only [↓vcPre,↓z0,↓reduceIte,vcPost,vcStd,Nat.reduceEqDiff,reduceCtorEq,Nat.reduceAdd,Nat.reduceLeDiff,Int.reduceLT,Int.reduceLE,↓u_setN]
 have h:=RZ.new hid (Store.sub_refl _) hr (by omega) hu
 refine LoopQ.inv (S:=List Int×List (Int×Int)×AV×Store) (fun q=>[(4,.ptr id 0),(5,q.2.2.1)]) (fun q=>q.2.2.2)
  (fun q=>RZ σ v B σ id q.1 false q.2.2.2∧Own 2 σ (q.2.1.map pxC) q.2.2.1 q.2.2.2∧U8s q.1∧q.2.1.length+q.1.length≤B.length∧dN B=(dN q.1).map (q.2.1 ++ ·))
  (fun q=>q.1.length+1) (B,[],.nils,_) rfl (Store.sub_refl _) ⟨h,.nil,hu,by simp,by simp⟩ ?_
 clear h
 rintro ⟨R,l,av,s⟩ ⟨h,ho,hR,hlen,hd⟩
 simp only at h ho hR hlen hd
 simp only [↓vcPre,↓z0,↓reduceIte,vcPost,vcStd,Nat.reduceEqDiff,reduceCtorEq,Nat.reduceAdd,Nat.reduceLeDiff,Int.reduceLT,Int.reduceLE,↓u_setN]
 refine (z7q h).Q ?_
 rintro r s' ⟨rfl,rfl⟩
 simp only [Bool.false_eq_true,if_false]
 simp only [↓vcPre,↓z0,↓reduceIte,vcPost,vcStd,Nat.reduceEqDiff,reduceCtorEq,Nat.reduceAdd,Nat.reduceLeDiff,Int.reduceLT,Int.reduceLE,↓u_setN]
 refine ⟨fun c1 => ?_,fun c1 => ?_⟩
 ·match R,hR,h,hlen,hd with
  | [],_,_,_,_=>simp at c1
  | n::R,hR,h,hlen,hd =>
  have hn:=hR n (by simp)
  have hRu:U8s R:=fun x hx=>hR x (by simp [hx])
  obtain ⟨hb1,hb2⟩:=h.base
  obtain ⟨at0,hat0⟩:=h.at
  refine (z67 hb1).Q ?_
  rintro r s2 ⟨rfl,h2⟩
  rw [xf] at h2 ⊢
  simp only at h2
  have hov:=(ho.delBox hat0).mono h2.sub2
  have hσ2:Store.sub σ s2:=Store.sub_trans hb2 h2.sub2
  have h2':=h2.weak hb2 (Store.sub_refl _)
  simp only [↓vcPre,↓z0,↓reduceIte,vcPost,vcStd,Nat.reduceEqDiff,reduceCtorEq,Nat.reduceAdd,Nat.reduceLeDiff,Int.reduceLT,Int.reduceLE,↓u_setN]
  refine ⟨fun c2 => ?_,fun c2 => ?_⟩
  ·refine EndQ.twoNil _ 2 σ rfl hσ2 ⟨rfl,?_⟩
   rw [hd,xw,if_pos c2];rfl
  ·have w1:IntKind.i64.wrap (n+7)=n+7:=zb (by unfold I64;omega)
   have w3:IntKind.i64.wrap ((n+7).tdiv 8)=(szN n:Int):=by
    rw [Int.tdiv_eq_ediv_of_nonneg (by omega),zb (by unfold I64;omega)]
    unfold szN;omega
   have hsz:=u5 hn.1 (by omega:n≤32)
   simp only [w1,w3,↓vcPre,↓z0,↓reduceIte,vcPost,vcStd,Nat.reduceEqDiff,reduceCtorEq,Nat.reduceAdd,Nat.reduceLeDiff,Int.reduceLT,Int.reduceLE,↓u_setN]
   refine ⟨by decide,?_⟩
   refine (ze4 h2' (szN n:Int) (by omega)).Q ?_
   rintro x s3 ⟨hx,hk3,h3⟩
   obtain ⟨at2,hat2⟩:=h2'.at
   obtain ⟨at3,hat3⟩:=h3.at
   have hov3:=hov.others hat2 hk3
   have hraw:(rawM (szN n:Int) R false).1.length≤4:=by have:=v9 (k:=szN n) (R:=R) (bad:=false);omega
   have hrau:=(xe (n:=(szN n:Int)) (bad:=false) hRu).1
   simp only [hat3,↓vcPre,↓z0,↓reduceIte,vcPost,vcStd,Nat.reduceEqDiff,reduceCtorEq,Nat.reduceAdd,Nat.reduceLeDiff,Int.reduceLT,Int.reduceLE,↓u_setN]
   by_cases hs:R.length<szN n
   ·have e:rawM (szN n:Int) R false=([],R,true):=by
     unfold rawM;rw [if_pos (by right;omega)]
    rw [e]
    simp only [↓vcPre,↓z0,↓reduceIte,vcPost,vcStd,Nat.reduceEqDiff,reduceCtorEq,Nat.reduceAdd,Nat.reduceLeDiff,Int.reduceLT,Int.reduceLE,↓u_setN]
    refine EndQ.twoNil _ 2 σ rfl h3.sub2 ⟨rfl,?_⟩
    rw [hd,xw,if_neg c2,if_pos hs];rfl
   ·have e:=xt (n:=(szN n:Int)) (R:=R) (by omega) (by omega)
    rw [Int.toNat_natCast] at e
    rw [e] at h3 hx hraw hrau hat3 ⊢
    simp only at h3 hx hraw hrau hat3
    generalize hW:R.take (szN n)=W at hx hraw hrau hat3
    simp only [z1j,↓vcPre,↓z0,↓reduceIte,vcPost,vcStd,Nat.reduceEqDiff,reduceCtorEq,Nat.reduceAdd,Nat.reduceLeDiff,Int.reduceLT,Int.reduceLE,↓u_setN]
    refine AllocQ.i0 fun q hq => ?_
    simp only [↓vcPre,↓z0,↓reduceIte,vcPost,vcStd,Nat.reduceEqDiff,reduceCtorEq,Nat.reduceAdd,Nat.reduceLeDiff,Int.reduceLT,Int.reduceLE,↓u_setN]
    have hsq:=Store.sub_set s3 q (.arr 1 [[.int .u8 0],[.int .u8 0],[.int .u8 0],[.int .u8 0]]) hq
    have hd2:Store.sub (s2.del id) s3:=fun z o hz=>by
     have e:z≠id:=fun e=>by subst e;simp at hz
     rw [Store.del_ne _ e] at hz
     exact hk3 z o e hz
    have hx2:Own 1 (s2.del id) (W.map cB) x (s3.set q (.arr 1 [[.int .u8 0],[.int .u8 0],[.int .u8 0],[.int .u8 0]])):=(hx.weak (y6 _ _)).mono hsq
    refine Own.appK (τ:=s2.del id) (Store.sub_trans hd2 hsq) hx2 (zr (Store.set_same _ _ _) rfl) (by simp;omega) fun y s4 hs4 ho4 hk4 => ?_
    have ho4':Own 1 (s2.del id) ((W++[0,0,0,0]).map cB) y s4:=by simpa [cB] using ho4
    have hi4:=hk4 _ _ (hsq _ _ hat3) (fun M e=>by cases e)
    have hov4:Own 2 σ (l.map pxC) av s4:=by
     rcases hov3 with h | ⟨g,g1,g2,g3⟩
     ·exact .inl h
     ·exact .inr ⟨g,g1,g2,hk4 _ _ (hsq _ _ g3) (fun M e=>by cases e)⟩
    have hσ4:Store.sub σ s4:=fun z o hz=>hs4 z o (by
     have e:z≠id:=fun e=>by subst e;rw [hid] at hz;cases hz
     rw [Store.del_ne _ e];exact hσ2 z o hz)
    have hyt:=ho4'.cell
    simp only [hyt.1,hyt.2,↓vcPre,↓z0,↓reduceIte,vcPost,vcStd,Nat.reduceEqDiff,reduceCtorEq,Nat.reduceAdd,Nat.reduceLeDiff,Int.reduceLT,Int.reduceLE,↓u_setN]
    refine AllocQ.i0 fun i2 hi2 => ?_
    simp only [↓vcPre,↓z0,↓reduceIte,vcPost,vcStd,Nat.reduceEqDiff,reduceCtorEq,Nat.reduceAdd,Nat.reduceLeDiff,Int.reduceLT,Int.reduceLE,↓u_setN]
    have hs5:=Store.sub_set s4 i2 (.box [y,.int .i64 0,.bool false]) hi2
    have hrf:RF s4 i2 y (W++[0,0,0,0]) 0 false (s4.set i2 (.box [y,.int .i64 0,.bool false])):=⟨hi2,hs5,Store.set_same _ _ _,Rd.own ho4',by omega⟩
    refine (zcb hrf (by simp;omega) (hrau.append (fun z hz=>by simp at hz;omega))).Q ?_
    rintro r s6 ⟨rfl,h6⟩
    rw [List.drop_zero,z8i hraw]
    have h46:=h6.2.1
    simp only [↓vcPre,↓z0,↓reduceIte,vcPost,vcStd,Nat.reduceEqDiff,reduceCtorEq,Nat.reduceAdd,Nat.reduceLeDiff,Int.reduceLT,Int.reduceLE,↓u_setN]
    refine (c89 (val4 W) n (by unfold I64;omega)).Q ?_
    simp only [↓vcPre,↓z0,↓reduceIte,vcPost,vcStd,Nat.reduceEqDiff,reduceCtorEq,Nat.reduceAdd,Nat.reduceLeDiff,Int.reduceLT,Int.reduceLE,↓u_setN]
    refine AllocQ.i0 fun b hb => ?_
    simp only [↓vcPre,↓z0,↓reduceIte,vcPost,vcStd,Nat.reduceEqDiff,reduceCtorEq,Nat.reduceAdd,Nat.reduceLeDiff,Int.reduceLT,Int.reduceLE,↓u_setN]
    have hsb:=Store.sub_set s6 b (.arr 2 [[.int .u32 (ofF (val4 W) n).1,.int .i64 (ofF (val4 W) n).2]]) hb
    refine Own.appK (τ:=σ) (Store.sub_trans hσ4 (Store.sub_trans h46 hsb)) ((hov4.mono h46).mono hsb) (zr (Store.set_same _ _ _) rfl) (by simp at hlen ⊢;omega) fun v' s7 hs7 ho7 hk7 => ?_
    have hi7:=hk7 _ _ (hsb _ _ (h46 _ _ hi4)) (fun M e=>by cases e)
    have h7:RZ σ v B σ id (R.drop (szN n)) false s7:=h3.to hs7 (fun o ho=>by rw [hat3] at ho;cases ho;exact hi7)
    have ho8:Own 2 σ ((l++[ofF (val4 W) n]).map pxC) v' s7:=by simpa [pxC] using ho7
    refine NextQ.to (R.drop (szN n),l++[ofF (val4 W) n],v',s7) rfl (Store.sub_refl _) (by simp;omega) ⟨h7,ho8,hRu.drop _,by simp at hlen ⊢;omega,?_⟩
    rw [hd,xw,if_neg c2,if_neg hs,hW,Option.map_map]
    congr 1
    funext x
    simp
 ·have hR0:R=[]:=by
   cases R with
   | nil=>rfl
   | cons x R=>simp at c1
  rw [hR0,vq,Option.map_some,List.append_nil] at hd
  exact EndQ.ownTwo rfl ho h.sub2 ⟨rfl,by rw [hd];rfl⟩
end Go.Am
namespace Go.Am.Ts1
open Go.Proofs Go.Am.B
def b22:BC:=z [k 2 .nils,k 3 (.bool false)] [0] (z [k 4 .nils] [0,4] (.seq (z [j 5 0] [0,4,5] (.block 0 (.loop [0,4,5] (.seq (z [m 6 5,m 7 0,u 8 .len 7,b 9 .lss 6 8] [0,4,5,9] (.cond (.t 9) .skip (.exit 0))) (.seq (.block 1 (.seq (z [m 12 0,m 13 5,x 14 2 12 13,⟨some 15,none,.load (.ld 2 true),[.t 14]⟩,g 16 49 [.t 15],u 17 .not 16] [0,4,5,17] (.cond (.t 17) (z [k 2 .nils,k 3 (.bool false)] [2,3] .ret) .skip)) (z [m 18 4] [0,5,18] (z [m 19 0] [0,5,18,19] (z [m 20 5] [0,5,18,19,20] (z [x 21 2 19 20] [0,5,18,21] (z [f 22 1 21] [0,5,18,22] (z [m 27 0] [0,5,18,22,27] (z [m 28 5] [0,5,18,22,27,28] (z [x 29 2 27 28] [0,5,18,22,29] (z [f 30 0 29] [0,5,18,22,30] (z [m 33 0] [0,5,18,22,30,33] (z [m 34 5] [0,5,18,22,30,33,34] (z [x 35 2 33 34] [0,5,18,22,30,35] (z [l 23 1 22] [0,5,18,23,30,35] (z [u 24 (.conv .u8) 23] [0,5,18,24,30,35] (.both (z [⟨some 25,none,.alloc (.mksl 1 1),[.t 24]⟩] [0,5,18,25,30,35] (.both (z [⟨some 26,none,.loud (.app 1 1),[.t 18,.t 25]⟩] [0,5,26,30,35] (z [l 31 1 30] [0,5,26,31,35] (z [⟨some 36,none,.load (.ld 2 true),[.t 35]⟩] [0,5,26,31,36] (z [⟨some 32,none,.qcall 39,[.c .nils,.t 31]⟩] [0,5,26,32,36] (z [⟨some 37,none,.qcall 50,[.t 36]⟩] [0,5,26,32,37] (z [c 38 .sub 37 1] [0,5,26,32,38] (z [p 39 (.slice 1 false true) [.t 32,.t 38]] [0,5,26,39] (z [⟨some 40,none,.loud (.app 1 1),[.t 26,.t 39]⟩] [0,5,40] (z [m 4 40] [0,4,5] (.ops [] [0,4,5])))))))))) (.both (z [l 31 1 30] [0,5,18,25,31,35] (.both (z [⟨some 26,none,.loud (.app 1 1),[.t 18,.t 25]⟩] [0,5,26,31,35] (z [⟨some 36,none,.load (.ld 2 true),[.t 35]⟩] [0,5,26,31,36] (z [⟨some 32,none,.qcall 39,[.c .nils,.t 31]⟩] [0,5,26,32,36] (z [⟨some 37,none,.qcall 50,[.t 36]⟩] [0,5,26,32,37] (z [c 38 .sub 37 1] [0,5,26,32,38] (z [p 39 (.slice 1 false true) [.t 32,.t 38]] [0,5,26,39] (z [⟨some 40,none,.loud (.app 1 1),[.t 26,.t 39]⟩] [0,5,40] (z [m 4 40] [0,4,5] (.ops [] [0,4,5]))))))))) (.both (z [⟨some 36,none,.load (.ld 2 true),[.t 35]⟩] [0,5,18,25,31,36] (z [⟨some 26,none,.loud (.app 1 1),[.t 18,.t 25]⟩] [0,5,26,31,36] (z [⟨some 32,none,.qcall 39,[.c .nils,.t 31]⟩] [0,5,26,32,36] (z [⟨some 37,none,.qcall 50,[.t 36]⟩] [0,5,26,32,37] (z [c 38 .sub 37 1] [0,5,26,32,38] (z [p 39 (.slice 1 false true) [.t 32,.t 38]] [0,5,26,39] (z [⟨some 40,none,.loud (.app 1 1),[.t 26,.t 39]⟩] [0,5,40] (z [m 4 40] [0,4,5] (.ops [] [0,4,5]))))))))) (.top)))) (.both (z [⟨some 36,none,.load (.ld 2 true),[.t 35]⟩] [0,5,18,25,30,36] (.both (z [⟨some 26,none,.loud (.app 1 1),[.t 18,.t 25]⟩] [0,5,26,30,36] (z [l 31 1 30] [0,5,26,31,36] (z [⟨some 32,none,.qcall 39,[.c .nils,.t 31]⟩] [0,5,26,32,36] (z [⟨some 37,none,.qcall 50,[.t 36]⟩] [0,5,26,32,37] (z [c 38 .sub 37 1] [0,5,26,32,38] (z [p 39 (.slice 1 false true) [.t 32,.t 38]] [0,5,26,39] (z [⟨some 40,none,.loud (.app 1 1),[.t 26,.t 39]⟩] [0,5,40] (z [m 4 40] [0,4,5] (.ops [] [0,4,5]))))))))) (.both (z [l 31 1 30] [0,5,18,25,31,36] (z [⟨some 26,none,.loud (.app 1 1),[.t 18,.t 25]⟩] [0,5,26,31,36] (z [⟨some 32,none,.qcall 39,[.c .nils,.t 31]⟩] [0,5,26,32,36] (z [⟨some 37,none,.qcall 50,[.t 36]⟩] [0,5,26,32,37] (z [c 38 .sub 37 1] [0,5,26,32,38] (z [p 39 (.slice 1 false true) [.t 32,.t 38]] [0,5,26,39] (z [⟨some 40,none,.loud (.app 1 1),[.t 26,.t 39]⟩] [0,5,40] (z [m 4 40] [0,4,5] (.ops [] [0,4,5]))))))))) (.top)))) (.top))))) (.both (z [l 31 1 30] [0,5,18,24,31,35] (.both (z [⟨some 25,none,.alloc (.mksl 1 1),[.t 24]⟩] [0,5,18,25,31,35] (.both (z [⟨some 26,none,.loud (.app 1 1),[.t 18,.t 25]⟩] [0,5,26,31,35] (z [⟨some 36,none,.load (.ld 2 true),[.t 35]⟩] [0,5,26,31,36] (z [⟨some 32,none,.qcall 39,[.c .nils,.t 31]⟩] [0,5,26,32,36] (z [⟨some 37,none,.qcall 50,[.t 36]⟩] [0,5,26,32,37] (z [c 38 .sub 37 1] [0,5,26,32,38] (z [p 39 (.slice 1 false true) [.t 32,.t 38]] [0,5,26,39] (z [⟨some 40,none,.loud (.app 1 1),[.t 26,.t 39]⟩] [0,5,40] (z [m 4 40] [0,4,5] (.ops [] [0,4,5]))))))))) (.both (z [⟨some 36,none,.load (.ld 2 true),[.t 35]⟩] [0,5,18,25,31,36] (z [⟨some 26,none,.loud (.app 1 1),[.t 18,.t 25]⟩] [0,5,26,31,36] (z [⟨some 32,none,.qcall 39,[.c .nils,.t 31]⟩] [0,5,26,32,36] (z [⟨some 37,none,.qcall 50,[.t 36]⟩] [0,5,26,32,37] (z [c 38 .sub 37 1] [0,5,26,32,38] (z [p 39 (.slice 1 false true) [.t 32,.t 38]] [0,5,26,39] (z [⟨some 40,none,.loud (.app 1 1),[.t 26,.t 39]⟩] [0,5,40] (z [m 4 40] [0,4,5] (.ops [] [0,4,5]))))))))) (.top)))) (.both (z [⟨some 36,none,.load (.ld 2 true),[.t 35]⟩] [0,5,18,24,31,36] (z [⟨some 25,none,.alloc (.mksl 1 1),[.t 24]⟩] [0,5,18,25,31,36] (z [⟨some 26,none,.loud (.app 1 1),[.t 18,.t 25]⟩] [0,5,26,31,36] (z [⟨some 32,none,.qcall 39,[.c .nils,.t 31]⟩] [0,5,26,32,36] (z [⟨some 37,none,.qcall 50,[.t 36]⟩] [0,5,26,32,37] (z [c 38 .sub 37 1] [0,5,26,32,38] (z [p 39 (.slice 1 false true) [.t 32,.t 38]] [0,5,26,39] (z [⟨some 40,none,.loud (.app 1 1),[.t 26,.t 39]⟩] [0,5,40] (z [m 4 40] [0,4,5] (.ops [] [0,4,5])))))))))) (.top)))) (.both (z [⟨some 36,none,.load (.ld 2 true),[.t 35]⟩] [0,5,18,24,30,36] (.both (z [⟨some 25,none,.alloc (.mksl 1 1),[.t 24]⟩] [0,5,18,25,30,36] (.both (z [⟨some 26,none,.loud (.app 1 1),[.t 18,.t 25]⟩] [0,5,26,30,36] (z [l 31 1 30] [0,5,26,31,36] (z [⟨some 32,none,.qcall 39,[.c .nils,.t 31]⟩] [0,5,26,32,36] (z [⟨some 37,none,.qcall 50,[.t 36]⟩] [0,5,26,32,37] (z [c 38 .sub 37 1] [0,5,26,32,38] (z [p 39 (.slice 1 false true) [.t 32,.t 38]] [0,5,26,39] (z [⟨some 40,none,.loud (.app 1 1),[.t 26,.t 39]⟩] [0,5,40] (z [m 4 40] [0,4,5] (.ops [] [0,4,5]))))))))) (.both (z [l 31 1 30] [0,5,18,25,31,36] (z [⟨some 26,none,.loud (.app 1 1),[.t 18,.t 25]⟩] [0,5,26,31,36] (z [⟨some 32,none,.qcall 39,[.c .nils,.t 31]⟩] [0,5,26,32,36] (z [⟨some 37,none,.qcall 50,[.t 36]⟩] [0,5,26,32,37] (z [c 38 .sub 37 1] [0,5,26,32,38] (z [p 39 (.slice 1 false true) [.t 32,.t 38]] [0,5,26,39] (z [⟨some 40,none,.loud (.app 1 1),[.t 26,.t 39]⟩] [0,5,40] (z [m 4 40] [0,4,5] (.ops [] [0,4,5]))))))))) (.top)))) (.both (z [l 31 1 30] [0,5,18,24,31,36] (z [⟨some 25,none,.alloc (.mksl 1 1),[.t 24]⟩] [0,5,18,25,31,36] (z [⟨some 26,none,.loud (.app 1 1),[.t 18,.t 25]⟩] [0,5,26,31,36] (z [⟨some 32,none,.qcall 39,[.c .nils,.t 31]⟩] [0,5,26,32,36] (z [⟨some 37,none,.qcall 50,[.t 36]⟩] [0,5,26,32,37] (z [c 38 .sub 37 1] [0,5,26,32,38] (z [p 39 (.slice 1 false true) [.t 32,.t 38]] [0,5,26,39] (z [⟨some 40,none,.loud (.app 1 1),[.t 26,.t 39]⟩] [0,5,40] (z [m 4 40] [0,4,5] (.ops [] [0,4,5])))))))))) (.top)))) (.top)))))))))))))))))))) (.ops [m 10 5,c 11 .add 10 1,m 5 11] [0,4,5])))))) (z [m 41 4,m 2 41,k 3 (.bool true)] [2,3] .ret)))
def F22:Fn Tryz.prog 22:=Fn.mkX false b22 [.t 2,.t 3] 42 Tryz.f22 _ Tryz.func22 (by decide) rfl Tryz.ntmps22 (by kernel_rfl) (by kernel_rfl)
end Go.Am.Ts1
namespace Go.Am
open Go.Proofs Go.Sort
def pxB (p:Int×Int):List Int:=p.2::(b4 p.1).take (szN p.2)
def encN (l:List (Int×Int)):List Int:=l.flatMap pxB
def Rights (l:List (Int×Int)):Prop:=∀ p ∈ l,rightF p.1 p.2=true
theorem wc {a n:Int} (h:rightF a n=true):0≤n∧n≤32:=by
 unfold rightF at h
 simp only [Bool.and_eq_true,decide_eq_true_eq] at h
 exact h.1
theorem c50 (p:Int×Int) (h:rightF p.1 p.2=true):Pur Tryz.prog 50 [.agg (pxC p)] (.int .i64 (1+(szN p.2:Int))):=by
 refine zo Tst.F50 (by simp [Tst.F50,Fn.mkX]) fun σ => ?_
 simp only [Tst.F50,Fn.mkX,Tst.b50,pxC]
 simp only [↓vcPre,↓z0,↓reduceIte,vcPost,vcStd,Nat.reduceEqDiff,reduceCtorEq,Nat.reduceAdd,Nat.reduceLeDiff,Int.reduceLT,Int.reduceLE,↓u_setN]
 refine AllocQ.i0 fun i hi => ?_
 simp only [↓vcPre,↓z0,↓reduceIte,vcPost,vcStd,Nat.reduceEqDiff,reduceCtorEq,Nat.reduceAdd,Nat.reduceLeDiff,Int.reduceLT,Int.reduceLE,↓u_setN]
 refine (c49 p.1 p.2).Q ?_
 rw [h]
 obtain ⟨g1,g2⟩:=wc h
 have w1:IntKind.i64.wrap (p.2+7)=p.2+7:=zb (by unfold I64;omega)
 have w3:IntKind.i64.wrap ((p.2+7).tdiv 8)=(szN p.2:Int):=by
  rw [Int.tdiv_eq_ediv_of_nonneg (by omega),zb (by unfold I64;omega)]
  unfold szN;omega
 have:=u5 g1 g2
 have w4:IntKind.i64.wrap (1+(szN p.2:Int))=1+(szN p.2:Int):=zb (by unfold I64;omega)
 simp only [w1,w3,w4,↓vcPre,↓z0,↓reduceIte,vcPost,vcStd,Nat.reduceEqDiff,reduceCtorEq,Nat.reduceAdd,Nat.reduceLeDiff,Int.reduceLT,Int.reduceLE,↓u_setN]
 exact ⟨by decide,Store.sub_set _ _ _ hi⟩
theorem we (l:List (Int×Int)) (h:Rights l):(encN l).length≤5*l.length:=by
 induction l with
 | nil=>simp [encN]
 | cons p l ih =>
   have h1:=ih fun q hq=>h q (by simp [hq])
   have h2:=wc (h p (by simp))
   have h3:=u5 h2.1 h2.2
   simp only [encN,List.flatMap_cons,List.length_append,List.length_cons,pxB,List.length_take] at *
   omega
set_option maxHeartbeats 1000000 in
theorem s22 (l:List (Int×Int)) (hl:l.length≤100000) (hr:Rights l) (σ:Store):ACalls Tryz.prog 22 [.sl 2 (l.map pxC)] σ (fun r s=>Store.sub σ s∧∃ v,r = .tup [v,.bool true]∧Own 1 σ ((encN l).map cB) v s):=by
 refine ze Ts1.F22 (by simp [Ts1.F22,Fn.mkX]) ?_
 simp only [Ts1.F22,Fn.mkX,Ts1.b22]
 simp only [↓vcPre,↓z0,↓reduceIte,vcPost,vcStd,Nat.reduceEqDiff,reduceCtorEq,Nat.reduceAdd,Nat.reduceLeDiff,Int.reduceLT,Int.reduceLE,↓u_setN]
 refine LoopQ.inv (S:=Nat×AV×Store) (fun w=>[(0,.sl 2 (l.map pxC)),(4,w.2.1),(5,.int .i64 (w.1:Int))]) (fun w=>w.2.2)
  (fun w=>w.1≤l.length∧Own 1 σ ((encN (l.take w.1)).map cB) w.2.1 w.2.2∧Store.sub σ w.2.2) (fun w=>l.length+1 - w.1) (0,.nils,σ) rfl (Store.sub_refl _) ⟨by omega,Own.nil,Store.sub_refl _⟩ ?_
 rintro ⟨k,v,s⟩ ⟨i1,i2,i3⟩
 simp only at i1 i2 i3
 simp only [↓vcPre,↓z0,↓reduceIte,vcPost,vcStd,Nat.reduceEqDiff,reduceCtorEq,Nat.reduceAdd,Nat.reduceLeDiff,Int.reduceLT,Int.reduceLE,↓u_setN]
 refine ⟨fun c1 => ?_,fun c1 => ?_⟩
 ·have hp:=hr _ (List.getElem_mem c1)
  obtain ⟨g1,g2⟩:=wc hp
  simp only [pxC,↓vcPre,↓z0,↓reduceIte,vcPost,vcStd,Nat.reduceEqDiff,reduceCtorEq,Nat.reduceAdd,Nat.reduceLeDiff,Int.reduceLT,Int.reduceLE,↓u_setN]
  refine ⟨c1,(c49 _ _).Q ?_⟩
  rw [hp]
  have w8:IntKind.u8.wrap l[k].2=l[k].2:=by simp [IntKind.wrap,IntKind.bits,IntKind.signed];omega
  simp only [pxC,w8,↓vcPre,↓z0,↓reduceIte,vcPost,vcStd,Nat.reduceEqDiff,reduceCtorEq,Nat.reduceAdd,Nat.reduceLeDiff,Int.reduceLT,Int.reduceLE,↓u_setN]
  have hlen:=we (l.take k) (fun p hp=>hr p (List.mem_of_mem_take hp))
  have hlk:(l.take k).length≤100000:=by rw [List.length_take];omega
  have hsz:=u5 g1 g2
  have ws:IntKind.i64.wrap (1+(szN l[k].2:Int) - 1)=(szN l[k].2:Int):=by rw [zb (by unfold I64;omega)];omega
  have ek:IntKind.i64.wrap ((k:Int)+1)=((k+1:Nat):Int):=by rw [zb (by unfold I64;omega)];omega
  have hcs:Pur Tryz.prog 50 [.agg [.int .u32 l[k].1,.int .i64 l[k].2]] (.int .i64 (1+(szN l[k].2:Int))):=c50 l[k] hp
  refine ⟨c1,c1,c1,?_⟩
  and_intros
  all_goals
   refine AllocQ.i0 fun q hq => ?_
   simp only [pxC,↓vcPre,↓z0,↓reduceIte,vcPost,vcStd,Nat.reduceEqDiff,reduceCtorEq,Nat.reduceAdd,Nat.reduceLeDiff,Int.reduceLT,Int.reduceLE,↓u_setN]
   have hsq:=Store.sub_set s q (.arr 1 [[.int .u8 l[k].2]]) hq
   and_intros
   all_goals
    refine Own.appM (bytes:=1) (τ:=σ) (Store.sub_trans i3 hsq) (i2.mono hsq) (zr (Store.set_same _ _ _) rfl) (by simp;omega) fun v1 s1 hs1 ho1 => ?_
    refine (s39 (L:=[]) (v := .nils) (Rd.nils) (by simp) l[k].1).Q ?_
    rintro r s2 ⟨hs2,ho2⟩
    simp only [pxC,↓vcPre,↓z0,↓reduceIte,vcPost,vcStd,Nat.reduceEqDiff,reduceCtorEq,Nat.reduceAdd,Nat.reduceLeDiff,Int.reduceLT,Int.reduceLE,↓u_setN]
    refine ⟨hs2,hcs.Q ?_⟩
    have h2r:Rd 1 s2 ((b4 l[k].1).map cB) r:=Rd.own (by simpa using ho2)
    obtain ⟨x,hx,hxr⟩:=h2r.slice (lo:=0) (hi:=szN l[k].2) (by omega) (by simp [b4];omega)
    have hx':pSlice 1 r 0 (some (szN l[k].2:Int))=some x:=hx
    simp only [ws,hx',pxC,↓vcPre,↓z0,↓reduceIte,vcPost,vcStd,Nat.reduceEqDiff,reduceCtorEq,Nat.reduceAdd,Nat.reduceLeDiff,Int.reduceLT,Int.reduceLE,↓u_setN]
    refine Own.appM (bytes:=1) (τ:=σ) (Store.sub_trans hs1 hs2) (ho1.mono hs2) (hxr.1 _ (Store.sub_refl _)) (by simp;omega) fun v2 s3 hs3 ho3 => ?_
    rw [ek]
    refine NextQ.to (k+1,v2,s3) rfl (Store.sub_refl _) (by simp only;omega) ⟨by simp only;omega,?_,hs3⟩
    have e:(encN (l.take (k+1)))=encN (l.take k)++pxB l[k]:=by
     unfold encN;rw [List.take_succ_eq_append_getElem c1,List.flatMap_append];simp
    simp only [e,List.map_append]
    simpa [pxB,cB,List.map_take] using ho3
 ·have hk:k=l.length:=by omega
  subst hk
  rw [List.take_length] at i2
  exact EndQ.to _ _ rfl (Store.sub_refl _) ⟨i3,v,rfl,i2⟩
end Go.Am
namespace Go.Am.Ts2
open Go.Proofs Go.Am.B
def t24_84:BC := .seq (z [f 84 1 10] [4,5,10,12,84] (.both (z [⟨some 83,none,.load (.ld 9 true),[.t 12]⟩] [4,5,10,83,84] (z [⟨none,none,.loud (.st 1),[.t 84,.c (.bool true)]⟩] [4,5,10,83] (z [f 85 2 10] [4,5,10,83,85] (z [s 9 85 83] [4,5,10] (.ops [] [4,5,10]))))) (.both (z [⟨none,none,.loud (.st 1),[.t 84,.c (.bool true)]⟩] [4,5,10,12] (z [⟨some 83,none,.load (.ld 9 true),[.t 12]⟩] [4,5,10,83] (z [f 85 2 10] [4,5,10,83,85] (z [s 9 85 83] [4,5,10] (.ops [] [4,5,10]))))) (.top)))) (z [⟨some 86,none,.load (.ld 12 true),[.t 10]⟩,p 87 (.build [(.int .i64 0),(.int .i64 0),.nils] []) [],s 12 4 86,s 3 5 87] [4,5] .ret)
def t24_73:BC := .seq (z [m 73 13,m 74 1,g 75 58 [.t 73,.t 74],m 15 75] [4,5,10,12,15] (z [m 76 15,c 77 .gtr 76 0] [4,5,10,12,15,77] (.cond (.t 77) (z [p 78 (.build [.nils,(.bool false),(.int .i64 0),.nils,(.int .u32 0),(.bool false),(.int .u32 0),(.bool false),(.int .u32 0),(.bool false),.nils,.nils] []) [],m 79 15,u 80 (.conv .u8) 79,⟨some 81,none,.alloc (.mksl 1 1),[.t 80]⟩,g 82 56 [.c (.int .i64 3),.t 81],s 12 4 78,s 3 5 82] [4,5] .ret) .skip))) t24_84
def t24_67:BC := .seq (z [f 67 11 10,l 68 1 67,u 69 .len 68,c 70 .eql 69 0] [1,4,5,10,12,13,70] (.cond (.t 70) (z [⟨some 71,none,.load (.ld 12 true),[.t 10]⟩,p 72 (.build [(.int .i64 0),(.int .i64 0),.nils] []) [],s 12 4 71,s 3 5 72] [4,5] .ret) .skip)) t24_73
def t24_58:BC := .seq (z [m 58 9,g 59 57 [.t 58],m 57 59,e 60 0 57,e 61 1 57,f 62 11 10,s 1 62 60,m 11 61] [1,4,5,10,11,12,13] (z [m 63 11,u 64 .not 63] [1,4,5,10,12,13,64] (.cond (.t 64) (z [p 65 (.build [.nils,(.bool false),(.int .i64 0),.nils,(.int .u32 0),(.bool false),(.int .u32 0),(.bool false),(.int .u32 0),(.bool false),.nils,.nils] []) [],g 66 56 [.c (.int .i64 10),.c .nils],s 12 4 65,s 3 5 66] [4,5] .ret) .skip))) t24_67
def t24_46:BC:=z [m 46 8,m 47 1,g 48 28 [.t 46,.t 47],m 45 48,e 49 0 45,e 50 1 45,e 51 2 45,⟨some 12,none,.alloc (.alloc [(.int .i64 0),.nils,(.int .u32 0),(.bool false),(.int .u32 0),(.bool false),(.int .u32 0),(.bool false),.nils]),[]⟩,⟨some 14,none,.alloc (.alloc [(.int .i64 0),(.int .i64 0),.nils]),[]⟩,s 9 12 49,m 13 50,s 3 14 51] [1,4,5,9,10,12,13,14] (.seq (z [f 52 0 14,l 53 1 52,c 54 .neq 53 0] [1,4,5,9,10,12,13,14,54] (.cond (.t 54) (.seq (z [p 55 (.build [.nils,(.bool false),(.int .i64 0),.nils,(.int .u32 0),(.bool false),(.int .u32 0),(.bool false),(.int .u32 0),(.bool false),.nils,.nils] []) []] [4,5,14,55] (.both (z [⟨some 56,none,.load (.ld 3 true),[.t 14]⟩] [4,5,55,56] (z [s 12 4 55] [4,5,56] (z [s 3 5 56] [4,5] (.ops [] [4,5])))) (.both (z [s 12 4 55] [4,5,14] (z [⟨some 56,none,.load (.ld 3 true),[.t 14]⟩] [4,5,56] (z [s 3 5 56] [4,5] (.ops [] [4,5])))) (.top)))) .ret) .skip)) t24_58)
def t24_10:BC:=z [⟨some 10,none,.alloc (.alloc [.nils,(.bool false),(.int .i64 0),.nils,(.int .u32 0),(.bool false),(.int .u32 0),(.bool false),(.int .u32 0),(.bool false),.nils,.nils]),[]⟩] [1,4,5,7,8,9,10] (z [k 11 (.bool false)] [1,4,5,7,8,9,10] (.seq (z [m 36 7,g 37 57 [.t 36],m 35 37,e 38 0 35,e 39 1 35,f 40 0 10,s 1 40 38,m 11 39] [1,4,5,8,9,10,11] (z [m 41 11,u 42 .not 41] [1,4,5,8,9,10,42] (.cond (.t 42) (z [p 43 (.build [.nils,(.bool false),(.int .i64 0),.nils,(.int .u32 0),(.bool false),(.int .u32 0),(.bool false),(.int .u32 0),(.bool false),.nils,.nils] []) [],g 44 56 [.c (.int .i64 10),.c .nils],s 12 4 43,s 3 5 44] [4,5] .ret) .skip))) t24_46))
def b24:BC:=z [⟨some 4,none,.alloc (.alloc [.nils,(.bool false),(.int .i64 0),.nils,(.int .u32 0),(.bool false),(.int .u32 0),(.bool false),(.int .u32 0),(.bool false),.nils,.nils]),[]⟩,⟨some 5,none,.alloc (.alloc [(.int .i64 0),(.int .i64 0),.nils]),[]⟩] [0,1,4,5] (z [m 16 0,g 17 51 [.t 16],m 6 17] [1,4,5,6] (z [m 18 6,m 19 6,g 20 53 [.t 19],g 21 52 [.t 18,.t 20],m 7 21] [1,4,5,6,7] (z [m 22 6,m 23 6,g 24 53 [.t 23],g 25 52 [.t 22,.t 24],m 8 25] [1,4,5,6,7,8] (z [m 26 6,m 27 6,g 28 54 [.t 27],g 29 52 [.t 26,.t 28],m 9 29] [1,4,5,6,7,8,9] (.seq (z [m 30 6,g 31 55 [.t 30],u 32 .not 31] [1,4,5,7,8,9,32] (.cond (.t 32) (z [p 33 (.build [.nils,(.bool false),(.int .i64 0),.nils,(.int .u32 0),(.bool false),(.int .u32 0),(.bool false),(.int .u32 0),(.bool false),.nils,.nils] []) [],g 34 56 [.c (.int .i64 1),.c .nils],s 12 4 33,s 3 5 34] [4,5] .ret) .skip)) t24_10)))))
def F24:Fn Tryz.prog 24:=Fn.mkX false b24 [.c 4 12 true,.c 5 3 true] 88 Tryz.f24 _ Tryz.func24 (by decide) rfl Tryz.ntmps24 (by kernel_rfl) (by kernel_rfl)
def t58_13:BC := .seq (z [m 13 5,u 14 .len 13,j 15 0] [0,13,14,15] (.block 0 (.loop [0,13,14,15] (z [b 16 .lss 15 14] [0,13,14,15,16] (.seq (.cond (.t 16) .skip (.exit 0)) (.seq (.block 1 (z [x 17 1 13 15,l 18 1 17,m 7 18] [0,7,13,14,15] (z [m 19 0,m 20 7,g 21 97 [.t 19,.t 20],u 22 .not 21] [0,7,13,14,15,22] (.cond (.t 22) (z [m 23 7,m 4 23] [4] .ret) .skip)))) (.ops [c 24 .add 15 1,m 15 24] [0,13,14,15]))))))) (z [j 4 0] [4] .ret)
def b58:BC:=z [j 4 0] [0,1] (z [⟨some 8,none,.alloc (.mksl 1 3),[.c (.int .i64 1),.c (.int .i64 2),.c (.int .i64 3)]⟩,m 5 8] [0,1,5] (.seq (z [m 9 1] [0,5,9] (.cond (.t 9) (.ops [m 10 5,⟨some 11,none,.alloc (.mksl 1 1),[.c (.int .i64 5)]⟩,⟨some 12,none,.loud (.app 1 8),[.t 10,.t 11]⟩,m 5 12] [0,5]) .skip)) t58_13))
def F58:Fn Tryz.prog 58:=Fn.mkX false b58 [.t 4] 25 Tryz.f58 _ Tryz.func58 (by decide) rfl Tryz.ntmps58 (by kernel_rfl) (by kernel_rfl)
end Go.Am.Ts2
namespace Go.Am
open Go.Proofs Go.Sort
theorem zg5 (l:List Int) (hl:l.length≤1000000) (x:Int):Pur Tryz.prog 129 [.sl 1 (l.map cI),.int .i64 x] (.int .i64 (if x ∈ l then (l.idxOf x:Int) else -1)):=by
 refine zo Tst.F129 (by simp [Tst.F129,Fn.mkX]) fun σ => ?_
 simp only [Tst.F129,Fn.mkX,Tst.b129]
 simp only [↓vcPre,↓z0,↓reduceIte,vcPost,vcStd,Nat.reduceEqDiff,reduceCtorEq,Nat.reduceAdd,Nat.reduceLeDiff,Int.reduceLT,Int.reduceLE,↓u_setN]
 have wl:IntKind.i64.wrap ((l.length:Nat):Int)=(l.length:Int):=zb (by unfold I64;omega)
 refine LoopQ.inv (S:=Nat) (fun k=>[(0,.sl 1 (l.map cI)),(1,.int .i64 x),(7,.int .i64 (l.length:Int)),(8,.int .i64 (k:Int))]) (fun _=>σ) (fun k=>k≤l.length∧x ∉ l.take k) (fun k=>l.length+1 - k) 0 rfl (Store.sub_refl _) ⟨by omega,by simp⟩ ?_
 rintro k ⟨hk,hx⟩
 simp only [↓vcPre,↓z0,↓reduceIte,vcPost,vcStd,Nat.reduceEqDiff,reduceCtorEq,Nat.reduceAdd,Nat.reduceLeDiff,Int.reduceLT,Int.reduceLE,↓u_setN]
 refine ⟨fun c1 => ?_,fun c1 => ?_⟩
 ·have ek:IntKind.i64.wrap ((k:Int)+1)=((k+1:Nat):Int):=by rw [zb (by unfold I64;omega)];omega
  simp only [cI,ek,↓vcPre,↓z0,↓reduceIte,vcPost,vcStd,Nat.reduceEqDiff,reduceCtorEq,Nat.reduceAdd,Nat.reduceLeDiff,Int.reduceLT,Int.reduceLE,↓u_setN]
  refine ⟨c1,fun e => ?_,fun e => ?_⟩
  ·have hm:x ∈ l:=by rw [e];exact List.getElem_mem c1
   rw [if_pos hm]
   have hsp:l=l.take k++(l[k]::l.drop (k+1)):=by rw [←List.drop_eq_getElem_cons c1,List.take_append_drop]
   have:l.idxOf x=k:=by
    rw [hsp,List.idxOf_append,if_neg hx,←e,List.idxOf_cons_self]
    simp;omega
   omega
  ·refine NextQ.to (k+1) rfl (Store.sub_refl _) (by omega) ⟨by omega,?_⟩
   rw [List.take_succ_eq_append_getElem c1,List.mem_append,List.mem_singleton]
   rintro (h | h)
   ·exact hx h
   ·exact e h
 ·have:k=l.length:=by omega
  subst this
  rw [List.take_length] at hx
  rw [if_neg hx]
theorem c97 (l:List Int) (hl:l.length≤1000000) (x:Int):Pur Tryz.prog 97 [.sl 1 (l.map cI),.int .i64 x] (.bool (decide (x ∈ l))):=by
 refine zo Tst.F97 (by simp [Tst.F97,Fn.mkX]) fun σ => ?_
 simp only [Tst.F97,Fn.mkX,Tst.b97]
 simp only [↓vcPre,↓z0,↓reduceIte,vcPost,vcStd,Nat.reduceEqDiff,reduceCtorEq,Nat.reduceAdd,Nat.reduceLeDiff,Int.reduceLT,Int.reduceLE,↓u_setN]
 refine (zg5 l hl x).Q ?_
 simp only [↓vcPre,↓z0,↓reduceIte,vcPost,vcStd,Nat.reduceEqDiff,reduceCtorEq,Nat.reduceAdd,Nat.reduceLeDiff,Int.reduceLT,Int.reduceLE,↓u_setN]
 by_cases h:x ∈ l
 ·rw [if_pos h];simp [h]
 ·rw [if_neg h];simp [h]
def mustF (inner:Bool):List Int:=[1,2,3]++(if inner then [5] else [])
def lacksF (ty:List Int) (inner:Bool):Int:=((mustF inner).find? (fun k => !decide (k ∈ ty))).getD 0
theorem z1e {ty:List Int} (hl:ty.length≤1000000) {inner:Bool} {σ t:Store} {v:AV} (ho:Own 1 σ ((mustF inner).map cI) v t) (hs:Store.sub σ t) (E:List (Nat×AV)) (hE:E=[]∨∃ b,E=[(9,.bool b)]) {n rr:Env→Store→Prop} {xx:Nat→Env→Store→Prop} (hr:∀ t',Store.sub σ t'→rr [(4,.int .i64 (lacksF ty inner))] t') :
 bwp Tryz.prog Ts2.t58_13 ([(0,.sl 1 (ty.map cI)),(5,v)]++E) t n rr xx:=by
 simp only [Ts2.t58_13]
 have hr2:=Rd.own ho
 have hm:(mustF inner).length≤4:=by unfold mustF;cases inner <;> simp
 have lv:pv .len [v]=some (.int .i64 ((mustF inner).length:Int)):=by rw [hr2.2];simp
 have wl:IntKind.i64.wrap (((mustF inner).length:Nat):Int)=((mustF inner).length:Int):=zb (by unfold I64;omega)
 rcases hE with rfl | ⟨b,rfl⟩
 all_goals
  simp only [lv,↓vcPre,↓z0,↓reduceIte,vcPost,vcStd,Nat.reduceEqDiff,reduceCtorEq,Nat.reduceAdd,Nat.reduceLeDiff,Int.reduceLT,Int.reduceLE,↓u_setN]
  refine LoopQ.inv (S:=Nat) (fun k=>[(0,.sl 1 (ty.map cI)),(13,v),(14,.int .i64 ((mustF inner).length:Int)),(15,.int .i64 (k:Int))]) (fun _=>t) (fun k=>k≤(mustF inner).length∧∀ x ∈ (mustF inner).take k,x ∈ ty) (fun k=>(mustF inner).length+1 - k) 0 rfl (Store.sub_refl _) ⟨by omega,by simp⟩ ?_
  rintro k ⟨hk,hx⟩
  simp only [↓vcPre,↓z0,↓reduceIte,vcPost,vcStd,Nat.reduceEqDiff,reduceCtorEq,Nat.reduceAdd,Nat.reduceLeDiff,Int.reduceLT,Int.reduceLE,↓u_setN]
  refine ⟨fun c1 => ?_,fun c1 => ?_⟩
  ·have ek:IntKind.i64.wrap ((k:Int)+1)=((k+1:Nat):Int):=by rw [zb (by unfold I64;omega)];omega
   obtain ⟨p,hp,hp2⟩:=hr2.at (k:=k) (by simp;omega)
   have r1:=hp2 t (Store.sub_refl _) 1
   simp only [List.getElem_map] at r1
   have hkl:k<(mustF inner).length:=by omega
   simp only [hp,r1,cI,↓vcPre,↓z0,↓reduceIte,vcPost,vcStd,Nat.reduceEqDiff,reduceCtorEq,Nat.reduceAdd,Nat.reduceLeDiff,Int.reduceLT,Int.reduceLE,↓u_setN]
   refine (c97 ty hl _).Q ?_
   simp only [ek,↓vcPre,↓z0,↓reduceIte,vcPost,vcStd,Nat.reduceEqDiff,reduceCtorEq,Nat.reduceAdd,Nat.reduceLeDiff,Int.reduceLT,Int.reduceLE,↓u_setN]
   refine ⟨fun c2 => ?_,fun c2 => ?_⟩
   ·have e:lacksF ty inner=(mustF inner)[k]:=by
     unfold lacksF
     have hsp:mustF inner=(mustF inner).take k++((mustF inner)[k]::(mustF inner).drop (k+1)):=by rw [←List.drop_eq_getElem_cons hkl,List.take_append_drop]
     have h1:((mustF inner).take k).find? (fun k => !decide (k ∈ ty))=none:=by
      rw [List.find?_eq_none]
      intro x hx2
      simp [hx x hx2]
     rw [show (mustF inner).find? (fun k => !decide (k ∈ ty))=some (mustF inner)[k] by
      conv=>lhs;rw [hsp]
      rw [List.find?_append,h1,List.find?_cons]
      simp [c2]]
     rfl
    rw [←e]
    exact hr _ hs
   ·refine NextQ.to (k+1) rfl (Store.sub_refl _) (by omega) ⟨by omega,?_⟩
    intro x hx2
    rw [List.take_succ_eq_append_getElem hkl,List.mem_append,List.mem_singleton] at hx2
    rcases hx2 with h | rfl
    ·exact hx x h
    ·exact c2
  ·have e:lacksF ty inner=0:=by
    unfold lacksF
    rw [List.find?_eq_none.2]
    ·rfl
    ·intro x hx2
     rw [List.take_of_length_le (by omega)] at hx
     simp [hx x hx2]
   rw [←e]
   exact hr _ hs
theorem c58 (ty:List Int) (hl:ty.length≤1000000) (inner:Bool):Pur Tryz.prog 58 [.sl 1 (ty.map cI),.bool inner] (.int .i64 (lacksF ty inner)):=by
 refine zo Ts2.F58 (by simp [Ts2.F58,Fn.mkX]) fun σ => ?_
 simp only [Ts2.F58,Fn.mkX,Ts2.b58]
 simp only [z20,↓vcPre,↓z0,↓reduceIte,vcPost,vcStd,Nat.reduceEqDiff,reduceCtorEq,Nat.reduceAdd,Nat.reduceLeDiff,Int.reduceLT,Int.reduceLE,↓u_setN]
 refine AllocQ.i0 fun d hd => ?_
 have hD:=Store.sub_set σ d (.arr 1 [[.int .i64 1],[.int .i64 2],[.int .i64 3]]) hd
 have oD:Own 1 σ (([1,2,3]:List Int).map cI) (.os d 1 0 3) (σ.set d (.arr 1 [[.int .i64 1],[.int .i64 2],[.int .i64 3]])):=Own.new (L:=[[.int .i64 1],[.int .i64 2],[.int .i64 3]]) hd
 generalize σ.set d (.arr 1 [[.int .i64 1],[.int .i64 2],[.int .i64 3]])=D at hD oD ⊢
 cases inner with
 | false =>
   simp only [↓vcPre,↓z0,↓reduceIte,vcPost,vcStd,Nat.reduceEqDiff,reduceCtorEq,Nat.reduceAdd,Nat.reduceLeDiff,Int.reduceLT,Int.reduceLE,↓u_setN]
   exact z1e (inner:=false) hl oD hD [(9,.bool false)] (.inr ⟨_,rfl⟩) fun t' h=>⟨rfl,h⟩
 | true =>
   simp only [↓vcPre,↓z0,↓reduceIte,vcPost,vcStd,Nat.reduceEqDiff,reduceCtorEq,Nat.reduceAdd,Nat.reduceLeDiff,Int.reduceLT,Int.reduceLE,↓u_setN]
   refine AllocQ.i0 fun q hq => ?_
   simp only [↓vcPre,↓z0,↓reduceIte,vcPost,vcStd,Nat.reduceEqDiff,reduceCtorEq,Nat.reduceAdd,Nat.reduceLeDiff,Int.reduceLT,Int.reduceLE,↓u_setN]
   have hsq:=Store.sub_set D q (.arr 1 [[.int .i64 5]]) hq
   refine Own.appM (τ:=σ) (Store.sub_trans hD hsq) (oD.mono hsq) (zr (Store.set_same _ _ _) rfl) (by simp) fun v1 u1 hu1 ho1 => ?_
   exact z1e (inner:=true) hl ho1 hu1 [] (.inl rfl) fun t' h=>⟨rfl,h⟩
theorem c56 (n:Int) (v:AV) (hv:v.isTup=false∧v.cells=[v]):Pur Tryz.prog 56 [.int .i64 n,v] (.agg [.int .i64 3,.int .i64 n,v]):=by
 refine zo Tst.F56 (by simp [Tst.F56,Fn.mkX]) fun σ => ?_
 simp only [Tst.F56,Fn.mkX,Tst.b56]
 simp only [↓vcPre,↓z0,↓reduceIte,vcPost,vcStd,Nat.reduceEqDiff,reduceCtorEq,Nat.reduceAdd,Nat.reduceLeDiff,Int.reduceLT,Int.reduceLE,↓u_setN]
 refine AllocQ.i0 fun i hi => ?_
 simp only [hv.1,hv.2,↓vcPre,↓z0,↓reduceIte,vcPost,vcStd,Nat.reduceEqDiff,reduceCtorEq,Nat.reduceAdd,Nat.reduceLeDiff,Int.reduceLT,Int.reduceLE,↓u_setN]
 exact z8 (Store.sub_set _ _ _ hi) hi
end Go.Am
namespace Go.Am
open Go.Proofs Go.Sort
theorem Own.addG {esz e2:Nat} {τ s s':Store} {L M:List (List AV)} {v w:AV} (h:Own esz τ L v s) (hτ:Store.sub τ s) (hs:Store.sub s s') (hw:Own e2 s M w s'):∃ τ',Store.sub τ τ'∧Store.sub τ' s'∧Own esz τ' L v s'∧Rd e2 τ' M w:=by
 rcases hw with ⟨rfl,rfl⟩ | ⟨g,rfl,hg,hh⟩
 ·exact ⟨τ,Store.sub_refl _,Store.sub_trans hτ hs,h.mono hs,Rd.nils⟩
 ·refine ⟨τ.set g (.arr e2 M),Store.sub_set _ _ _ (zj hτ hg),fun j o hj => ?_,?_,Rd.os (Store.set_same _ _ _)⟩
  ·by_cases e:j=g
   ·subst e;rw [Store.set_same] at hj;cases hj;exact hh
   ·rw [Store.set_ne _ _ e] at hj;exact hs _ _ (hτ _ _ hj)
  ·rcases h with h | ⟨k,a,b,c⟩
   ·exact .inl h
   ·have hkg:¬ k=g:=fun e=>by rw [e,hg] at c;cases c
    exact .inr ⟨k,a,by rw [Store.set_ne _ _ hkg];exact b,hs _ _ c⟩
theorem z1i (a:At) (h8:a.cms.length≤100000) {T s:Store} {i:Nat} {L:List Int} {v:AV} (hTi:T i=some (boxC a)) (hs:Store.sub T s) (h:Own 1 T (L.map cB) v s) (hL:L.length≤9000000) {n r:Env→Store→Prop} {x:Nat→Env→Store→Prop}
 (hr:∀ v' s',Store.sub T s'→Own 1 T ((L++(if a.cms=[] then [] else oneA 192 8 (encW a.cms))).map cB) v' s'→r [(2,v')] s'):bwp Tryz.prog Tsj.t11_39 [(1,.ptr i 0),(3,v)] s n r x:=by
 simp only [Tsj.t11_39]
 have hi:=hs _ _ hTi
 simp only [hi,boxC,↓vcPre,↓z0,↓reduceIte,vcPost,vcStd,Nat.reduceEqDiff,reduceCtorEq,Nat.reduceAdd,Nat.reduceLeDiff,Int.reduceLT,Int.reduceLE,↓u_setN]
 have hc:=yr a.cms
 refine ⟨fun c1 => ?_,fun c1 => ?_⟩
 ·obtain ⟨τ1,p1,p2,p3,p4⟩:∃ τ1,Store.sub T τ1∧Store.sub τ1 s∧Own 1 T (L.map cB) v s∧∀ t,Store.sub τ1 t→Own 1 T (L.map cB) v t:=⟨s,hs,Store.sub_refl _,h,fun t ht=>h.mono ht⟩
  refine LoopQ.inv (S:=Nat×AV×Store) (fun q=>[(1,.ptr i 0),(3,v),(4,q.2.1),(5,.int .i64 (q.1:Int))]) (fun q=>q.2.2) (fun q=>q.1≤a.cms.length∧Store.sub s q.2.2∧Own 1 s ((encW (a.cms.take q.1)).map cB) q.2.1 q.2.2) (fun q=>a.cms.length+1 - q.1) (0,.nils,s) rfl (Store.sub_refl _) ⟨by simp only;omega,Store.sub_refl _,by simpa [encW] using Own.nil⟩ ?_
  rintro ⟨k,w,s1⟩ ⟨hk,hs1,ho1⟩
  simp only at hk hs1 ho1
  have hle:=yr (a.cms.take k)
  rw [List.length_take] at hle
  simp only [hs1 _ _ hi,boxC,↓vcPre,↓z0,↓reduceIte,vcPost,vcStd,Nat.reduceEqDiff,reduceCtorEq,Nat.reduceAdd,Nat.reduceLeDiff,Int.reduceLT,Int.reduceLE,↓u_setN]
  refine ⟨fun d1 => ?_,fun d1 => ?_⟩
  ·have ek:IntKind.i64.wrap ((k:Int)+1)=((k+1:Nat):Int):=by rw [zb (by unfold I64;omega)];omega
   refine ⟨d1,by simp [cU],?_⟩
   simp only [cU,↓vcPre,↓z0,↓reduceIte,vcPost,vcStd,Nat.reduceEqDiff,reduceCtorEq,Nat.reduceAdd,Nat.reduceLeDiff,Int.reduceLT,Int.reduceLE,↓u_setN]
   refine (s39 (Rd.own ho1) (by omega) _).Q ?_
   rintro r' s2 ⟨k1,k2⟩
   simp only [↓vcPre,↓z0,↓reduceIte,vcPost,vcStd,Nat.reduceEqDiff,reduceCtorEq,Nat.reduceAdd,Nat.reduceLeDiff,Int.reduceLT,Int.reduceLE,↓u_setN]
   rw [ek]
   refine NextQ.to (k+1,r',s2) rfl (Store.sub_refl _) (by simp only;omega) ⟨by simp only;omega,Store.sub_trans hs1 k1,?_⟩
   simp only
   rw [ub _ _ d1]
   exact k2.weak hs1
  ·have e:a.cms.take k=a.cms:=List.take_of_length_le (by omega)
   rw [e] at ho1
   obtain ⟨τ',q1,q2,q3,q4⟩:=Own.addG h hs hs1 ho1
   refine (s37 q2 q3 q4 (by omega) (by omega) 192 8 (by decide) (by decide)).Q ?_
   rintro r' s2 ⟨k1,k2⟩
   simp only [↓vcPre,↓z0,↓reduceIte,vcPost,vcStd,Nat.reduceEqDiff,reduceCtorEq,Nat.reduceAdd,Nat.reduceLeDiff,Int.reduceLT,Int.reduceLE,↓u_setN]
   have:=hr r' s2 (Store.sub_trans q1 k1)
   rw [if_neg (fun e=>by rw [e] at c1;simp at c1)] at this
   exact this (k2.weak q1)
 ·have:=hr v s hs
  rw [if_pos (List.length_eq_zero_iff.1 (by omega)),List.append_nil] at this
  exact this h
theorem z1h (a:At) (h8:a.cms.length≤100000) {T s:Store} {i:Nat} {L:List Int} {v:AV} (hTi:T i=some (boxC a)) (hs:Store.sub T s) (h:Own 1 T (L.map cB) v s) (hL:L.length≤8000000) {n r:Env→Store→Prop} {x:Nat→Env→Store→Prop}
 (hr:∀ v' s',Store.sub T s'→Own 1 T ((L++(if a.atm then oneA 64 6 [] else [])++(if a.cms=[] then [] else oneA 192 8 (encW a.cms))).map cB) v' s'→r [(2,v')] s'):bwp Tryz.prog Tsj.t11_35 [(1,.ptr i 0),(3,v)] s n r x:=by
 simp only [Tsj.t11_35]
 have hi:=hs _ _ hTi
 cases g:a.atm
 ·simp only [hi,boxC,g,↓vcPre,↓z0,↓reduceIte,vcPost,vcStd,Nat.reduceEqDiff,reduceCtorEq,Nat.reduceAdd,Nat.reduceLeDiff,Int.reduceLT,Int.reduceLE,↓u_setN]
  refine z1i a h8 hTi hs h (by omega) fun v' s' hs' ho' => ?_
  have:=hr v' s' hs'
  rw [g] at this
  exact this (by simpa using ho')
 ·simp only [hi,boxC,g,↓vcPre,↓z0,↓reduceIte,vcPost,vcStd,Nat.reduceEqDiff,reduceCtorEq,Nat.reduceAdd,Nat.reduceLeDiff,Int.reduceLT,Int.reduceLE,↓u_setN]
  refine (s37 hs h (M:=[]) Rd.nils (by omega) (by simp) 64 6 (by decide) (by decide)).Q ?_
  rintro r' s1 ⟨k1,k2⟩
  simp only [↓vcPre,↓z0,↓reduceIte,vcPost,vcStd,Nat.reduceEqDiff,reduceCtorEq,Nat.reduceAdd,Nat.reduceLeDiff,Int.reduceLT,Int.reduceLE,↓u_setN]
  refine z1i a h8 hTi k1 k2 (by have:=xj 64 6 [];simp at this ⊢;omega) fun v' s' hs' ho' => ?_
  have:=hr v' s' hs'
  rw [g] at this
  exact this ho'
theorem z1g (a:At) (h8:a.cms.length≤100000) {T s:Store} {i:Nat} {L:List Int} {v:AV} (hTi:T i=some (boxC a)) (hs:Store.sub T s) (h:Own 1 T (L.map cB) v s) (hL:L.length≤7000000) {n r:Env→Store→Prop} {x:Nat→Env→Store→Prop}
 (hr:∀ v' s',Store.sub T s'→Own 1 T ((L++(if a.hp then oneA 64 5 (b4 a.prf) else [])++(if a.atm then oneA 64 6 [] else [])++(if a.cms=[] then [] else oneA 192 8 (encW a.cms))).map cB) v' s'→r [(2,v')] s'):bwp Tryz.prog Tsj.t11_28 [(1,.ptr i 0),(3,v)] s n r x:=by
 simp only [Tsj.t11_28]
 have hi:=hs _ _ hTi
 cases g:a.hp
 ·simp only [hi,boxC,g,↓vcPre,↓z0,↓reduceIte,vcPost,vcStd,Nat.reduceEqDiff,reduceCtorEq,Nat.reduceAdd,Nat.reduceLeDiff,Int.reduceLT,Int.reduceLE,↓u_setN]
  refine z1h a h8 hTi hs h (by omega) fun v' s' hs' ho' => ?_
  have:=hr v' s' hs'
  rw [g] at this
  exact this (by simpa using ho')
 ·have hTi5:=(hs) _ _ hTi
  simp only [hTi5,boxC,g,↓vcPre,↓z0,↓reduceIte,vcPost,vcStd,Nat.reduceEqDiff,reduceCtorEq,Nat.reduceAdd,Nat.reduceLeDiff,Int.reduceLT,Int.reduceLE,↓u_setN]
  refine (s39 (s:=s) (L:=[]) Rd.nils (by simp) a.prf).Q ?_
  rintro r s' ⟨k1,k2⟩
  rw [List.nil_append] at k2
  obtain ⟨τ',q1,q2,q3,q4⟩:=Own.addG h (hs) k1 k2
  simp only [↓vcPre,↓z0,↓reduceIte,vcPost,vcStd,Nat.reduceEqDiff,reduceCtorEq,Nat.reduceAdd,Nat.reduceLeDiff,Int.reduceLT,Int.reduceLE,↓u_setN]
  refine (s37 q2 q3 q4 (by omega) (by rw [x8];omega) 64 5 (by decide) (by decide)).Q ?_
  rintro r s1 ⟨h1,k3⟩
  have h1:=Store.sub_trans q1 h1
  have k3:=Own.weak k3 q1
  simp only [↓vcPre,↓z0,↓reduceIte,vcPost,vcStd,Nat.reduceEqDiff,reduceCtorEq,Nat.reduceAdd,Nat.reduceLeDiff,Int.reduceLT,Int.reduceLE,↓u_setN]
  refine z1h a h8 hTi h1 k3 (by have:=vt 64 5 (b4 a.prf) L;rw [x8] at this;omega) fun v' s' hs' ho' => ?_
  have:=hr v' s' hs'
  rw [g] at this
  exact this ho'
theorem z5t (a:At) (h8:a.cms.length≤100000) {T s:Store} {i:Nat} {L:List Int} {v:AV} (hTi:T i=some (boxC a)) (hs:Store.sub T s) (h:Own 1 T (L.map cB) v s) (hL:L.length≤6000000) {n r:Env→Store→Prop} {x:Nat→Env→Store→Prop}
 (hr:∀ v' s',Store.sub T s'→Own 1 T ((L++(if a.hm then oneA 128 4 (b4 a.med) else [])++(if a.hp then oneA 64 5 (b4 a.prf) else [])++(if a.atm then oneA 64 6 [] else [])++(if a.cms=[] then [] else oneA 192 8 (encW a.cms))).map cB) v' s'→r [(2,v')] s'):bwp Tryz.prog Tsj.t11_21 [(1,.ptr i 0),(3,v)] s n r x:=by
 simp only [Tsj.t11_21]
 have hi:=hs _ _ hTi
 cases g:a.hm
 ·simp only [hi,boxC,g,↓vcPre,↓z0,↓reduceIte,vcPost,vcStd,Nat.reduceEqDiff,reduceCtorEq,Nat.reduceAdd,Nat.reduceLeDiff,Int.reduceLT,Int.reduceLE,↓u_setN]
  refine z1g a h8 hTi hs h (by omega) fun v' s' hs' ho' => ?_
  have:=hr v' s' hs'
  rw [g] at this
  exact this (by simpa using ho')
 ·have hTi4:=(hs) _ _ hTi
  simp only [hTi4,boxC,g,↓vcPre,↓z0,↓reduceIte,vcPost,vcStd,Nat.reduceEqDiff,reduceCtorEq,Nat.reduceAdd,Nat.reduceLeDiff,Int.reduceLT,Int.reduceLE,↓u_setN]
  refine (s39 (s:=s) (L:=[]) Rd.nils (by simp) a.med).Q ?_
  rintro r s' ⟨k1,k2⟩
  rw [List.nil_append] at k2
  obtain ⟨τ',q1,q2,q3,q4⟩:=Own.addG h (hs) k1 k2
  simp only [↓vcPre,↓z0,↓reduceIte,vcPost,vcStd,Nat.reduceEqDiff,reduceCtorEq,Nat.reduceAdd,Nat.reduceLeDiff,Int.reduceLT,Int.reduceLE,↓u_setN]
  refine (s37 q2 q3 q4 (by omega) (by rw [x8];omega) 128 4 (by decide) (by decide)).Q ?_
  rintro r s1 ⟨h1,k3⟩
  have h1:=Store.sub_trans q1 h1
  have k3:=Own.weak k3 q1
  simp only [↓vcPre,↓z0,↓reduceIte,vcPost,vcStd,Nat.reduceEqDiff,reduceCtorEq,Nat.reduceAdd,Nat.reduceLeDiff,Int.reduceLT,Int.reduceLE,↓u_setN]
  refine z1g a h8 hTi h1 k3 (by have:=vt 128 4 (b4 a.med) L;rw [x8] at this;omega) fun v' s' hs' ho' => ?_
  have:=hr v' s' hs'
  rw [g] at this
  exact this ho'
def encOk (a:At):Prop:=a.path.length≤1000∧(∀ s ∈ a.path,s.ls.length≤1000)∧a.cms.length≤1000
theorem z40:∀ (m:List Seg),(∀ s ∈ m,s.ls.length≤1000)→(encPath m).length≤4002*m.length:=by
 intro m
 induction m with
 | nil=>intro _;simp [encPath]
 | cons s r ih =>
   intro h
   have h1:=ih fun x hx=>h x (by simp [hx])
   have h2:=h s (by simp)
   have h3:=yr s.ls
   simp only [encPath,List.flatMap_cons,List.length_append,encSeg,List.length_cons,List.length_nil] at *
   omega
theorem s11 (a:At) (ha:encOk a) (σ:Store):ACalls Tryz.prog 11 [.agg a.c] σ (fun r s=>Store.sub σ s∧Own 1 σ ((encA a).map cB) r s):=by
 refine ze Tsj.F11 (by simp [Tsj.F11,Fn.mkX]) ?_
 simp only [Tsj.F11,Fn.mkX,Tsj.b11]
 have e9:∀ x:At,x.c.length=9:=fun _=>rfl
 obtain ⟨a1,a2,a3⟩:=ha
 have hpl:=z40 a.path a2
 simp only [↓vcPre,↓z0,↓reduceIte,vcPost,vcStd,Nat.reduceEqDiff,reduceCtorEq,Nat.reduceAdd,Nat.reduceLeDiff,Int.reduceLT,Int.reduceLE,↓u_setN]
 refine AllocQ.i0 fun i hi => ?_
 have hsb:=Store.sub_set σ i (.box a.c) hi
 have hTi:(σ.set i (.box a.c)) i=some (boxC a):=Store.set_same _ _ _
 change bops _ _ _ (σ.set i (.box a.c)) _
 generalize σ.set i (.box a.c)=T at hsb hTi ⊢
 simp only [hTi,boxC,↓vcPre,↓z0,↓reduceIte,vcPost,vcStd,Nat.reduceEqDiff,reduceCtorEq,Nat.reduceAdd,Nat.reduceLeDiff,Int.reduceLT,Int.reduceLE,↓u_setN]
 refine AllocQ.i0 fun b hb => ?_
 simp only [↓vcPre,↓z0,↓reduceIte,vcPost,vcStd,Nat.reduceEqDiff,reduceCtorEq,Nat.reduceAdd,Nat.reduceLeDiff,Int.reduceLT,Int.reduceLE,↓u_setN]
 have hTb:=Store.sub_set T b (.arr 1 [cB (IntKind.u8.wrap a.org)]) hb
 refine (s37 (τ:=T.set b (.arr 1 [cB (IntKind.u8.wrap a.org)])) (L:=[]) (M:=[IntKind.u8.wrap a.org]) (Store.sub_refl _) Own.nil (Rd.os (Store.set_same _ _ _)) (by simp) (by simp) 64 1 (by decide) (by decide)).Q ?_
 rintro r s1 ⟨h1,m1⟩
 have h1:=Store.sub_trans hTb h1
 have m1:=Own.weak m1 hTb
 have l1:=vt 64 1 [IntKind.u8.wrap a.org] []
 simp only [List.length_nil,List.length_cons] at l1
 simp only [h1 _ _ hTi,boxC,↓vcPre,↓z0,↓reduceIte,vcPost,vcStd,Nat.reduceEqDiff,reduceCtorEq,Nat.reduceAdd,Nat.reduceLeDiff,Int.reduceLT,Int.reduceLE,↓u_setN]
 refine (c38 a.path (by omega) a2).Q ?_
 simp only [↓vcPre,↓z0,↓reduceIte,vcPost,vcStd,Nat.reduceEqDiff,reduceCtorEq,Nat.reduceAdd,Nat.reduceLeDiff,Int.reduceLT,Int.reduceLE,↓u_setN]
 refine (s37 h1 m1 (Rd.sl (L:=(encPath a.path).map cB)) (by omega) (by omega) 64 2 (by decide) (by decide)).Q ?_
 rintro r s2 ⟨h2,m2⟩
 have l2:=vt 64 2 (encPath a.path) ([]++oneA 64 1 [IntKind.u8.wrap a.org])
 simp only [↓vcPre,↓z0,↓reduceIte,vcPost,vcStd,Nat.reduceEqDiff,reduceCtorEq,Nat.reduceAdd,Nat.reduceLeDiff,Int.reduceLT,Int.reduceLE,↓u_setN]
 have hTi3:=(h2) _ _ hTi
 simp only [hTi3,boxC,e9,↓vcPre,↓z0,↓reduceIte,vcPost,vcStd,Nat.reduceEqDiff,reduceCtorEq,Nat.reduceAdd,Nat.reduceLeDiff,Int.reduceLT,Int.reduceLE,↓u_setN]
 refine (s39 (s:=s2) (L:=[]) Rd.nils (by simp) a.nxt).Q ?_
 rintro r s' ⟨k1,k2⟩
 rw [List.nil_append] at k2
 obtain ⟨τ',q1,q2,q3,q4⟩:=Own.addG m2 (h2) k1 k2
 simp only [↓vcPre,↓z0,↓reduceIte,vcPost,vcStd,Nat.reduceEqDiff,reduceCtorEq,Nat.reduceAdd,Nat.reduceLeDiff,Int.reduceLT,Int.reduceLE,↓u_setN]
 refine (s37 q2 q3 q4 (by omega) (by rw [x8];omega) 64 3 (by decide) (by decide)).Q ?_
 rintro r s3 ⟨h1,k3⟩
 have h1:=Store.sub_trans q1 h1
 have k3:=Own.weak k3 q1
 have l3:=vt 64 3 (b4 a.nxt) ([]++oneA 64 1 [IntKind.u8.wrap a.org]++oneA 64 2 (encPath a.path))
 rw [x8] at l3
 simp only [↓vcPre,↓z0,↓reduceIte,vcPost,vcStd,Nat.reduceEqDiff,reduceCtorEq,Nat.reduceAdd,Nat.reduceLeDiff,Int.reduceLT,Int.reduceLE,↓u_setN]
 refine z5t a (by omega) hTi h1 k3 (by omega) fun v' s' hs' ho' => ?_
 refine EndQ.to s' _ rfl (Store.sub_refl _) ⟨Store.sub_trans hsb hs',?_⟩
 have:=ho'.weak hsb
 simpa [encA,u8w] using this
end Go.Am
namespace Go.Am
open Go.Proofs Go.Sort
def byL (L:List Int):List UInt8:=L.map fun n=>UInt8.ofNat n.toNat
theorem z2p:∀ (L:List Int) (acc:List UInt8),toBytes (L.map cB) acc=some (acc.reverse++byL L)
 | [],acc=>by simp [toBytes,byL]
 | x::L,acc=>by
   show toBytes ([.int .u8 x]::L.map cB) acc=_
   simp only [toBytes]
   rw [z2p L];simp [byL]
theorem z14 {τ:Store} {L:List Int} {v:AV} (h:Rd 1 τ (L.map cB) v) {t:Store} (ht:Store.sub τ t):ldv .str [v] t=some (.str ⟨(byL L).toArray⟩):=by
 simp only [ldv,h.1 t ht,Option.bind_some,z2p,List.reverse_nil,List.nil_append,Option.map_some]
theorem z9e {a b:List UInt8}:pv (.eqs false) [.str ⟨a.toArray⟩,.str ⟨b.toArray⟩]=some (.bool (a ==b)):=by
 simp [pv,pEqs]
theorem zfy (b:Bool):(b ==b)=true:=by cases b <;> rfl
theorem zbr (l:List UInt8):(l ==l)=true:=by simp
end Go.Am
namespace Go.Am
open Go.Proofs Go.Sort
theorem c30 (l:List Int) (h:l.length≤1000000):Pur Tryz.prog 30 [.sl 1 (l.map cI),.sl 1 (l.map cI)] (.bool true):=by
 refine zo Tst.F30 (by simp [Tst.F30,Fn.mkX]) fun σ => ?_
 simp only [Tst.F30,Fn.mkX,Tst.b30]
 simp only [↓vcPre,↓z0,↓reduceIte,vcPost,vcStd,Nat.reduceEqDiff,reduceCtorEq,Nat.reduceAdd,Nat.reduceLeDiff,Int.reduceLT,Int.reduceLE,↓u_setN]
 refine LoopQ.inv (S:=Nat) (fun k=>[(0,.sl 1 (l.map cI)),(1,.sl 1 (l.map cI)),(5,.int .i64 (k:Int))]) (fun _=>σ) (fun k=>k≤l.length) (fun k=>l.length+1 - k) 0 rfl (Store.sub_refl _) (by omega) ?_
 rintro k hk
 simp only [↓vcPre,↓z0,↓reduceIte,vcPost,vcStd,Nat.reduceEqDiff,reduceCtorEq,Nat.reduceAdd,Nat.reduceLeDiff,Int.reduceLT,Int.reduceLE,↓u_setN]
 intro c1
 have ek:IntKind.i64.wrap ((k:Int)+1)=((k+1:Nat):Int):=by rw [zb (by unfold I64;omega)];omega
 refine ⟨by omega,by omega,by simp [cI],?_⟩
 simp only [cI,↓vcPre,↓z0,↓reduceIte,vcPost,vcStd,Nat.reduceEqDiff,reduceCtorEq,Nat.reduceAdd,Nat.reduceLeDiff,Int.reduceLT,Int.reduceLE,↓u_setN]
 rw [ek]
 exact NextQ.to (k+1) rfl (Store.sub_refl _) (by omega) (by omega)
theorem c43 (p q:Int) (M:List Int):Pur Tryz.prog 43 [.agg [.int .i64 p,.int .i64 q,.sl 1 (M.map cB)],.agg [.int .i64 p,.int .i64 q,.sl 1 (M.map cB)]] (.bool true):=by
 refine zo Tst.F43 (by simp [Tst.F43,Fn.mkX]) fun σ => ?_
 simp only [Tst.F43,Fn.mkX,Tst.b43]
 simp only [↓vcPre,↓z0,↓reduceIte,vcPost,vcStd,Nat.reduceEqDiff,reduceCtorEq,Nat.reduceAdd,Nat.reduceLeDiff,Int.reduceLT,Int.reduceLE,↓u_setN]
 refine AllocQ.i0 fun i hi => ?_
 simp only [↓vcPre,↓z0,↓reduceIte,vcPost,vcStd,Nat.reduceEqDiff,reduceCtorEq,Nat.reduceAdd,Nat.reduceLeDiff,Int.reduceLT,Int.reduceLE,↓u_setN]
 refine AllocQ.i1 fun j hj1 hj2 hj => ?_
 have hx:∀ s:Store,Rd 1 s (M.map cB) (.sl 1 (M.map cB)):=fun _=>Rd.sl
 have l1:=z14 (hx ((σ.set i (.box [.int .i64 p,.int .i64 q,.sl 1 (M.map cB)])).set j (.box [.int .i64 p,.int .i64 q,.sl 1 (M.map cB)]))) (Store.sub_refl _)
 simp only [hj1,hj2,l1,z9e,zbr,↓vcPre,↓z0,↓reduceIte,vcPost,vcStd,Nat.reduceEqDiff,reduceCtorEq,Nat.reduceAdd,Nat.reduceLeDiff,Int.reduceLT,Int.reduceLE,↓u_setN]
 exact zq hi hj hj1
theorem z02 (inner:Bool):∀ (f:Nat) (b:List Int) (a:At) (S ty:List Int) (a':At) (ty':List Int),decL inner f b a S ty = .ok (a',ty')→U8s b→b.length≤1000000→a.ok→a'.ok∧ty'.length≤ty.length+b.length
 | _,[],a,_,ty,a',ty',h,_,_,ha=>by
   simp only [decL] at h;cases h;exact ⟨ha,by omega⟩
 | 0,_::_,_,_,_,_,_,h,_,_,_=>by simp only [decL] at h;cases h
 | f+1,x::r,a,S,ty,a',ty',h,hu,hb,ha=>by
   simp only [decL] at h
   cases hc:chunk (x::r) with
   | none=>rw [hc] at h;cases h
   | some c =>
     rw [hc] at h
     simp only at h
     have hl:=wq hc
     have cu:=z0k hu hc
     split at h
     ·cases h
     ·split at h
      ·have:=z02 inner f c.rest a _ _ _ _ h cu.2.1 (by omega) ha
       exact ⟨this.1,by omega⟩
      ·cases hs:stepA c a with
       | error n=>rw [hs] at h;cases h
       | ok a2 =>
         rw [hs] at h
         have:=z02 inner f c.rest a2 _ _ _ _ h cu.2.1 (by omega) (u0 hs ha (by omega))
         refine ⟨this.1,?_⟩
         have h2:=this.2
         simp only [List.length_append,List.length_singleton] at h2
         omega
theorem z2e (inner:Bool) {B:List Int} (hu:U8s B) (hB:B.length≤1000000):∃ (A:At) (T:List Int) (p q:Int) (M:List Int),A.ok∧T.length≤1000000∧outD (decA inner B) = .tup [.agg A.c,.sl 1 (T.map cI),.agg [.int .i64 p,.int .i64 q,.sl 1 (M.map cB)]]:=by
 unfold decA
 cases h:decL inner B.length B zeroAt [] [] with
 | error n=>exact ⟨zeroAt,[],3,n.1,n.2,yq,by simp,rfl⟩
 | ok x =>
   obtain ⟨a,ty⟩:=x
   have:=z02 inner _ _ _ _ _ _ _ h hu hB yq
   exact ⟨canonA a,ty.mergeSort leI,0,0,[],xu this.1,by have:=this.2;simp only [List.length_mergeSort];simp at this;omega,rfl⟩
end Go.Am
namespace Go.Am
open Go.Proofs Go.Sort
theorem z4i (l:List Int):U8s (encW l):=by
 intro x hx
 simp only [encW,List.mem_flatMap] at hx
 obtain ⟨n,_,h⟩:=hx
 exact z2t n x h
theorem z59 (l:List Seg):U8s (encPath l):=by
 intro x hx
 simp only [encPath,List.mem_flatMap] at hx
 obtain ⟨s,_,h⟩:=hx
 simp only [encSeg,List.mem_append,List.mem_cons,List.not_mem_nil,or_false] at h
 rcases h with (rfl | rfl) | h
 ·omega
 ·omega
 ·exact z4i _ x h
theorem wg {fl k:Int} {v:List Int} (h1:0≤fl∧fl<240) (h2:0≤k∧k<256) (h3:U8s v):U8s (oneA fl k v):=by
 intro x hx
 unfold oneA at hx
 rcases List.mem_append.1 hx with h | h
 ·split at h
  ·simp only [List.mem_cons,List.not_mem_nil,or_false] at h;omega
  ·simp only [List.mem_cons,List.not_mem_nil,or_false] at h;omega
 ·exact h3 x h
theorem z9i (a:At):U8s (encA a):=by
 have e1:U8s (oneA 64 1 [a.org % 256]):=wg (by omega) (by omega) fun x hx=>by simp only [List.mem_singleton] at hx;omega
 have e2:=wg (fl:=64) (k:=2) (by omega) (by omega) (z59 a.path)
 have e3:=wg (fl:=64) (k:=3) (by omega) (by omega) (z2t a.nxt)
 have e4:U8s (if a.hm then oneA 128 4 (b4 a.med) else []):=by
  split
  ·exact wg (by omega) (by omega) (z2t _)
  ·intro x hx;simp at hx
 have e5:U8s (if a.hp then oneA 64 5 (b4 a.prf) else []):=by
  split
  ·exact wg (by omega) (by omega) (z2t _)
  ·intro x hx;simp at hx
 have e6:U8s (if a.atm then oneA 64 6 [] else []):=by
  split
  ·exact wg (by omega) (by omega) fun x hx=>by simp at hx
  ·intro x hx;simp at hx
 have e8:U8s (if a.cms=[] then [] else oneA 192 8 (encW a.cms)):=by
  split
  ·intro x hx;simp at hx
  ·exact wg (by omega) (by omega) (z4i _)
 unfold encA
 exact (((((e1.append e2).append e3).append e4).append e5).append e6).append e8
end Go.Am
namespace Go.Am
open Go.Proofs Go.Sort
theorem wi:[AV.int .i64 0,.nils,.int .u32 0,.bool false,.int .u32 0,.bool false,.int .u32 0,.bool false,.nils]=zC:=rfl
theorem yw:[AV.int .i64 0,.int .i64 0,.nils]=zN:=rfl
theorem z9g {f:Nat} {a:AV} {cells cells':List AV} {s:Store} {Q:AV→Store→Prop} (hi:ImpL cells cells') (h:ACalls Tryz.prog f [a,.agg cells'] s Q):ACalls Tryz.prog f [a,.agg cells] s Q :=
 ACalls.weakArgs h.1 (WeakL.pos 1 rfl (Imp.agg hi (WeakL.pure h)))
theorem encOk.ok {a:At} (h:encOk a):a.ok:=⟨by have:=h.1;omega,fun s hs=>by have:=h.2.1 s hs;show s.ls.length≤_;omega,by have:=h.2.2;omega⟩
end Go.Am
namespace Go.Am
open Go.Proofs Go.Sort
def upC (wv:AV) (has:Bool) (a:At) (nv:AV):List AV:=wv :: .bool has::(a.c++[nv])
end Go.Am
