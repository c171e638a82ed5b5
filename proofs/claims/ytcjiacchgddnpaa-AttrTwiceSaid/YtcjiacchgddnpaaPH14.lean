/- A part of the proof: a logic for calls over plain values, and the functions that the law reaches, each walked once. -/
import Derived.Test.YtcjiacchgddnpaaPH13
set_option linter.unusedVariables false
set_option linter.unusedSimpArgs false
set_option linter.unusedSectionVars false
namespace Go.Am
open Go.Proofs Go.Sort
theorem z5w (a:At) (ho:I64 a.org) (hn:okNums a) (which cut:Int) (hw:I64 which) (hc:I64 cut):Pur Try.prog 4 [.agg a.c,.int .i64 which,.int .i64 cut] (.bool true):=by
 refine zl Tsv.F4 (by simp [Tsv.F4,Fn.mkX]) fun σ => ?_
 simp only [Tsv.F4,Fn.mkX,Tsv.b4]
 have e9:∀ x:At,x.c.length=9:=fun _=>rfl
 have t9:∀ x:At,List.take 9 x.c=x.c:=fun _=>rfl
 have spA:∀ x y:At,splice 0 x.c y.c=some x.c:=fun _ _=>rfl
 have spZ:∀ x:At,splice 0 x.c zC=some x.c:=fun _=>rfl
 have szn:∀ x y z:AV,splice 0 [x,y,z] zN=some [x,y,z]:=fun _ _ _=>rfl
 have hen:=z3l a
 obtain ⟨hr,hnn⟩:=z23 hn
 obtain ⟨hre,hl1,hl2,hl3⟩:=z9u a
 have hyl:=z3j (shortA a)
 have hyu:=z74 (rightK (shortA a))
 simp only [↓vcPre,↓z0,↓reduceIte,vcPost,vcStd,Nat.reduceEqDiff,reduceCtorEq,Nat.reduceAdd,Nat.reduceLeDiff,Int.reduceLT,Int.reduceLE,↓u_setN]
 refine AllocQ.i0 fun i hi => ?_
 simp only [e9,t9,Nat.le_refl,↓vcPre,↓z0,↓reduceIte,vcPost,vcStd,Nat.reduceEqDiff,reduceCtorEq,Nat.reduceAdd,Nat.reduceLeDiff,Int.reduceLT,Int.reduceLE,↓u_setN]
 refine (c8 a).Q ?_
 simp only [↓vcPre,↓z0,↓reduceIte,vcPost,vcStd,Nat.reduceEqDiff,reduceCtorEq,Nat.reduceAdd,Nat.reduceLeDiff,Int.reduceLT,Int.reduceLE,↓u_setN]
 refine (c7 _ hen.ok ho).Q ?_
 simp only [spA,e9,t9,Nat.le_refl,↓vcPre,↓z0,↓reduceIte,vcPost,vcStd,Nat.reduceEqDiff,reduceCtorEq,Nat.reduceAdd,Nat.reduceLeDiff,Int.reduceLT,Int.reduceLE,↓u_setN]
 generalize rightK (shortA a)=r at hr hnn hre hl1 hl2 hl3 hyl hyu ⊢
 have sT:Store.sub σ ((σ.set i (.box a.c)).set i (.box r.c)):=z6 (Store.sub_set σ i _ hi) hi
 generalize (σ.set i (.box a.c)).set i (.box r.c)=T at sT ⊢
 refine (s9 r hre T).Q ?_
 rintro y s ⟨hs,hy⟩
 simp only [↓vcPre,↓z0,↓reduceIte,vcPost,vcStd,Nat.reduceEqDiff,reduceCtorEq,Nat.reduceAdd,Nat.reduceLeDiff,Int.reduceLT,Int.reduceLE,↓u_setN]
 have hyr:Rd 1 s ((encA r).map cB) y:=Rd.own hy
 have hy4:4≤(encA r).length:=by obtain ⟨t,e⟩:=z0y r;rw [e];simp
 obtain ⟨f4,hf4,hf4r⟩:=hyr.slice (lo:=0) (hi:=4) (by omega) (by simp;omega)
 have hf4':pSlice 1 y 0 (some 4)=some f4:=hf4
 simp only [hf4',↓vcPre,↓z0,↓reduceIte,vcPost,vcStd,Nat.reduceEqDiff,reduceCtorEq,Nat.reduceAdd,Nat.reduceLeDiff,Int.reduceLT,Int.reduceLE,↓u_setN]
 have sσ:=Store.sub_trans sT hs
 have tl:∀ (F:List Int) (f:AV) (t:Store),(F=(encA r).take 4∨F=[0,1,0])→Rd 1 t (F.map cB) f→Rd 1 t ((encA r).map cB) y→Store.sub σ t→∀ (E:Env),(E=[(2,.int .i64 cut),(7,y),(8,f)]∨∃ b,E=[(2,.int .i64 cut),(7,y),(8,f),(25,.bool b)])→∀ (n:Env→Store→Prop) (x:Nat→Env→Store→Prop),
  bwp Try.prog Tsv.t4_28 E t n (fun e τ=>e.res τ Tsv.F4.slots=some (.bool true)∧Store.sub σ τ) x:=by
  intro F f t hF hf hyt ht E hE n x
  rcases hE with rfl | ⟨b,rfl⟩
  all_goals
   simp only [Tsv.t4_28,z9d,z9e]
   simp only [↓vcPre,↓z0,↓reduceIte,vcPost,vcStd,Nat.reduceEqDiff,reduceCtorEq,Nat.reduceAdd,Nat.reduceLeDiff,Int.reduceLT,Int.reduceLE,↓u_setN]
   refine AllocQ.i0 fun d hd => ?_
   simp only [↓vcPre,↓z0,↓reduceIte,vcPost,vcStd,Nat.reduceEqDiff,reduceCtorEq,Nat.reduceAdd,Nat.reduceLeDiff,Int.reduceLT,Int.reduceLE,↓u_setN]
   have hsd:=Store.sub_set t d (.arr 1 []) hd
   refine Own.appM (τ:=t) hsd (Own.new (L:=[]) hd) (hyt.1 _ hsd) (by simp;omega) fun v1 u1 hu1 ho1 => ?_
   have hFl:F.length≤4:=by
    rcases hF with rfl | rfl
    ·simp only [List.length_take];omega
    ·simp
   refine Own.appM (τ:=t) hu1 ho1 (hf.1 _ hu1) (by simp;omega) fun v2 u2 hu2 ho2 => ?_
   have ho2':Own 1 t ((encA r++F).map cB) v2 u2:=by simpa using ho2
   have hFu:U8s F:=by
    rcases hF with rfl | rfl
    ·exact hyu.take 4
    ·intro x hx;simp only [List.mem_cons,List.not_mem_nil,or_false] at hx;omega
   have D1:=s12 (Rd.own ho2') (by simp only [List.length_append];omega) (hyu.append hFu) true
   rw [z49 hr hnn F hF] at D1
   refine D1.Q ?_
   rintro r1 w ⟨rfl,rfl⟩
   simp only [outD,List.map_nil]
   simp only [↓vcPre,↓z0,↓reduceIte,vcPost,vcStd,Nat.reduceEqDiff,reduceCtorEq,Nat.reduceAdd,Nat.reduceLeDiff,Int.reduceLT,Int.reduceLE,↓u_setN]
   have sw:=Store.sub_trans ht hu2
   have hyw:=hyt.mono hu2
   refine AllocQ.i0 fun p1 hp1 => ?_
   simp only [↓vcPre,↓z0,↓reduceIte,vcPost,vcStd,Nat.reduceEqDiff,reduceCtorEq,Nat.reduceAdd,Nat.reduceLeDiff,Int.reduceLT,Int.reduceLE,↓u_setN]
   refine AllocQ.i1 fun p3 h31 h13 hp3 => ?_
   simp only [h31,h13,e9,spZ,szn,↓vcPre,↓z0,↓reduceIte,vcPost,vcStd,Nat.reduceEqDiff,reduceCtorEq,Nat.reduceAdd,Nat.reduceLeDiff,Int.reduceLT,Int.reduceLE,↓u_setN]
   have sU:Store.sub w ((((w.set p1 (.box zC)).set p3 (.box zN)).set p1 (.box zeroAt.c)).set p3 (.box [.int .i64 3,.int .i64 1,.sl 1 []])):=z6 (z6 (zk hp1 hp3 h31) hp1) hp3
   have U3:((((w.set p1 (.box zC)).set p3 (.box zN)).set p1 (.box zeroAt.c)).set p3 (.box [.int .i64 3,.int .i64 1,.sl 1 []])) p3=some (.box [.int .i64 3,.int .i64 1,.sl 1 []]):=Store.set_same _ _ _
   generalize ((((w.set p1 (.box zC)).set p3 (.box zN)).set p1 (.box zeroAt.c)).set p3 (.box [.int .i64 3,.int .i64 1,.sl 1 []]))=U at sU U3 ⊢
   have hyU:=hyw.mono sU
   have sσU:=Store.sub_trans sw sU
   refine (c11 cut 1 3 hc (by omega) (by omega) (by omega)).Q ?_
   obtain ⟨k,hk,hk1,hk3⟩:∃ k:Nat,(1:Int)+cut % (3 - 1+1)=k∧1≤k∧k≤3:=by
    have h1:=Int.emod_nonneg cut (b:=3 - 1+1) (by omega)
    have h2:=Int.emod_lt_of_pos cut (b:=3 - 1+1) (by omega)
    exact ⟨(1+cut % (3 - 1+1)).toNat,by omega,by omega,by omega⟩
   rw [hk]
   simp only [↓vcPre,↓z0,↓reduceIte,vcPost,vcStd,Nat.reduceEqDiff,reduceCtorEq,Nat.reduceAdd,Nat.reduceLeDiff,Int.reduceLT,Int.reduceLE,↓u_setN]
   obtain ⟨c1,hc1,hcr⟩:=hyU.slice (lo:=0) (hi:=k) (by omega) (by simp;omega)
   have hc1':pSlice 1 y 0 (some (k:Int))=some c1:=hc1
   simp only [hc1',↓vcPre,↓z0,↓reduceIte,vcPost,vcStd,Nat.reduceEqDiff,reduceCtorEq,Nat.reduceAdd,Nat.reduceLeDiff,Int.reduceLT,Int.reduceLE,↓u_setN]
   rw [List.drop_zero,←List.map_take] at hcr
   have D2:=s12 hcr (by simp only [List.length_take];omega) (hyu.take k) true
   rw [z73 r k hk1 hk3] at D2
   refine D2.Q ?_
   rintro r2 W ⟨rfl,rfl⟩
   simp only [outD,List.map_nil]
   simp only [↓vcPre,↓z0,↓reduceIte,vcPost,vcStd,Nat.reduceEqDiff,reduceCtorEq,Nat.reduceAdd,Nat.reduceLeDiff,Int.reduceLT,Int.reduceLE,↓u_setN]
   refine AllocQ.i0 fun p4 hp4 => ?_
   simp only [↓vcPre,↓z0,↓reduceIte,vcPost,vcStd,Nat.reduceEqDiff,reduceCtorEq,Nat.reduceAdd,Nat.reduceLeDiff,Int.reduceLT,Int.reduceLE,↓u_setN]
   refine AllocQ.i1 fun p6 h64 h46 hp6 => ?_
   simp only [h64,h46,e9,spZ,szn,↓vcPre,↓z0,↓reduceIte,vcPost,vcStd,Nat.reduceEqDiff,reduceCtorEq,Nat.reduceAdd,Nat.reduceLeDiff,Int.reduceLT,Int.reduceLE,↓u_setN]
   have sX:Store.sub W ((((W.set p4 (.box zC)).set p6 (.box zN)).set p4 (.box zeroAt.c)).set p6 (.box [.int .i64 3,.int .i64 1,.sl 1 []])):=z6 (z6 (zk hp4 hp6 h64) hp4) hp6
   have X6:((((W.set p4 (.box zC)).set p6 (.box zN)).set p4 (.box zeroAt.c)).set p6 (.box [.int .i64 3,.int .i64 1,.sl 1 []])) p6=some (.box [.int .i64 3,.int .i64 1,.sl 1 []]):=Store.set_same _ _ _
   have X4:((((W.set p4 (.box zC)).set p6 (.box zN)).set p4 (.box zeroAt.c)).set p6 (.box [.int .i64 3,.int .i64 1,.sl 1 []])) p4=some (.box zeroAt.c):=by rw [Store.set_ne _ _ h46];exact Store.set_same _ _ _
   have X3:=sX _ _ U3
   generalize ((((W.set p4 (.box zC)).set p6 (.box zN)).set p4 (.box zeroAt.c)).set p6 (.box [.int .i64 3,.int .i64 1,.sl 1 []]))=Y at sX X6 X4 X3 ⊢
   simp only [X3,X4,X6,e9,t9,Nat.le_refl,↓vcPre,↓z0,↓reduceIte,vcPost,vcStd,Nat.reduceEqDiff,reduceCtorEq,Nat.reduceAdd,Nat.reduceLeDiff,Int.reduceLT,Int.reduceLE,↓u_setN]
   refine ⟨fun _=>⟨fun _ => ?_,fun h=>absurd rfl h⟩,fun h=>absurd rfl h⟩
   refine (z71 z5b (z27 Y)).Q ?_
   rintro r3 Y' ⟨rfl,rfl⟩
   simp only [↓vcPre,↓z0,↓reduceIte,vcPost,vcStd,Nat.reduceEqDiff,reduceCtorEq,Nat.reduceAdd,Nat.reduceLeDiff,Int.reduceLT,Int.reduceLE,↓u_setN]
   refine c15.Q ?_
   simp only [↓vcPre,↓z0,↓reduceIte,vcPost,vcStd,Nat.reduceEqDiff,reduceCtorEq,Nat.reduceAdd,Nat.reduceLeDiff,Int.reduceLT,Int.reduceLE,↓u_setN]
   exact ⟨rfl,Store.sub_trans sσU sX⟩
 refine ⟨by decide,fun c0 => ?_,fun c0 => ?_⟩
 ·simp only [z2x,↓vcPre,↓z0,↓reduceIte,vcPost,vcStd,Nat.reduceEqDiff,reduceCtorEq,Nat.reduceAdd,Nat.reduceLeDiff,Int.reduceLT,Int.reduceLE,↓u_setN]
  refine AllocQ.i0 fun q hq => ?_
  simp only [↓vcPre,↓z0,↓reduceIte,vcPost,vcStd,Nat.reduceEqDiff,reduceCtorEq,Nat.reduceAdd,Nat.reduceLeDiff,Int.reduceLT,Int.reduceLE,↓u_setN]
  have h1:=Store.sub_set s q (.arr 1 [[.int .u8 0],[.int .u8 1],[.int .u8 0]]) hq
  exact tl [0,1,0] _ _ (.inr rfl) (Rd.os (Store.set_same _ _ _)) (hyr.mono h1) (Store.sub_trans sσ h1) _ (.inl rfl) _ _
 ·rw [List.drop_zero,←List.map_take] at hf4r
  exact tl ((encA r).take 4) f4 s (.inl rfl) hf4r hyr sσ _ (.inr ⟨_,rfl⟩) _ _
end Go.Am
namespace Go.Am
open Go.Proofs
theorem zd5 (a:At) (ha:I64 a.org∧okNums a) (which:Int) (h1:I64 which) (cut:Int) (h2:I64 cut):Pur Try.prog 4 [.agg a.c,.int .i64 which,.int .i64 cut] (.bool true):=z5w a ha.1 ha.2 which cut h1 h2
end Go.Am
