/- A part of the proof: a logic for calls over plain values, and the functions that the law reaches, each walked once. -/
import Derived.Test.YtcjiacchgddnpaaGreatPQ15
set_option linter.unusedVariables false
set_option linter.unusedSimpArgs false
set_option linter.unusedSectionVars false
namespace Go.Am
open Go.Proofs Go.Sort
theorem WeakE.mono {e:Env} {σ:Store} {Q Q':Env→Store→Prop} (h:WeakE e σ Q) (hq:∀ e s,Q e s→Q' e s):WeakE e σ Q':=fun G w vs hs hv=>by
 obtain ⟨G',e',s',h1,h2,h3,h4⟩:=h G w vs hs hv
 exact ⟨G',e',s',h1,h2,h3,hq _ _ h4⟩
def vs7:List Int:=[2,1,1,0,0,0,1,0,0]
def fs7:List Int:=[0,64,128,192,96,160,224,80,79,144,208]
theorem u8l {l:List Int} (h:∀ x ∈ l,0≤x∧x<256):U8s l:=h
section
variable {n rr:Env→Store→Prop} {xx:Nat→Env→Store→Prop}
theorem z2s {T s:Store} {k f c:Int} {y v19 v20 v21 v5:AV} {B:List Int} {b:Bool} (hs:Store.sub T s) (hy:Own 1 T (B.map cB) y s) (hB:B.length≤30) (h0:B≠[]) (hu:U8s B) (e:Env)
 (he:e=[(1,.int .i64 k),(3,.int .u8 f),(4,.int .i64 c),(6,y),(19,v19),(20,v20),(21,v21)]∨e=[(1,.int .i64 k),(3,.int .u8 f),(4,.int .i64 c),(5,v5),(6,y),(19,v19),(20,v20),(21,v21),(42,.bool b)])
 (hn:∀ s',Store.sub T s'→n [(1,.int .i64 k),(3,.int .u8 f),(4,.int .i64 c),(19,v19),(20,v20),(21,v21),(71,.bool false)] s'):bwp Tryz.prog Ts14.t8_51 e s n rr xx:=by
 simp only [Ts14.t8_51]
 have hr:=Rd.own hy
 have ly:pv .len [y]=some (.int .i64 (B.length:Int)):=by rw [hr.2];simp
 have w1:IntKind.i64.wrap ((B.length:Int) - 1)=((B.length - 1:Nat):Int):=by
  have:0<B.length:=List.length_pos_iff.2 h0
  rw [zd (by unfold I64;omega)];omega
 obtain ⟨w,hw1,hw2⟩:=hr.slice (lo:=0) (hi:=B.length - 1) (by omega) (by simp)
 have hw1':pSlice 1 y 0 (some ((B.length - 1:Nat):Int))=some w:=hw1
 rw [List.drop_zero,←List.map_take] at hw2
 rcases he with rfl | rfl
 all_goals
  simp only [↓vcPre,↓z0,↓reduceIte,vcPost,vcStd,Nat.reduceEqDiff,reduceCtorEq,Nat.reduceAdd,Nat.reduceLeDiff,Int.reduceLT,Int.reduceLE,↓u_setN]
  refine (s15 hr (by omega) hu).Q ?_
  rintro r1 s1 ⟨rfl,rfl⟩
  simp only [ly,w1,hw1',↓vcPre,↓z0,↓reduceIte,vcPost,vcStd,Nat.reduceEqDiff,reduceCtorEq,Nat.reduceAdd,Nat.reduceLeDiff,Int.reduceLT,Int.reduceLE,↓u_setN]
  refine (s15 hw2 (by simp;omega) (hu.take _)).Q ?_
  rintro r2 s2 ⟨rfl,rfl⟩
  simp only [wz,↓vcPre,↓z0,↓reduceIte,vcPost,vcStd,Nat.reduceEqDiff,reduceCtorEq,Nat.reduceAdd,Nat.reduceLeDiff,Int.reduceLT,Int.reduceLE,↓u_setN]
  refine AllocQ.i0 fun d hd => ?_
  simp only [↓vcPre,↓z0,↓reduceIte,vcPost,vcStd,Nat.reduceEqDiff,reduceCtorEq,Nat.reduceAdd,Nat.reduceLeDiff,Int.reduceLT,Int.reduceLE,↓u_setN]
  have sd:=Store.sub_set s2 d (.arr 1 [[.int .u8 64],[.int .u8 1],[.int .u8 1],[.int .u8 0]]) hd
  refine Own.appM (bytes:=1) (τ:=s2) sd (Own.new (L:=[[.int .u8 64],[.int .u8 1],[.int .u8 1],[.int .u8 0]]) hd) (hr.1 _ sd) (by simp;omega) fun v3 s3 hs3 ho3 => ?_
  simp only [z0z,↓vcPre,↓z0,↓reduceIte,vcPost,vcStd,Nat.reduceEqDiff,reduceCtorEq,Nat.reduceAdd,Nat.reduceLeDiff,Int.reduceLT,Int.reduceLE,↓u_setN]
  refine AllocQ.i0 fun d2 hd2 => ?_
  simp only [↓vcPre,↓z0,↓reduceIte,vcPost,vcStd,Nat.reduceEqDiff,reduceCtorEq,Nat.reduceAdd,Nat.reduceLeDiff,Int.reduceLT,Int.reduceLE,↓u_setN]
  have sd2:=Store.sub_set s3 d2 (.arr 1 [[.int .u8 64],[.int .u8 6],[.int .u8 0]]) hd2
  refine Own.appM (bytes:=1) (τ:=s2) (Store.sub_trans hs3 sd2) (ho3.mono sd2) (zm (Store.set_same _ _ _) rfl) (by simp;omega) fun v4 s4 hs4 ho4 => ?_
  have hr4:Rd 1 s4 (([64,1,1,0]++B++[64,6,0]).map cB) v4:=by
   have:=Rd.own ho4
   simpa [cB] using this
  refine (s15 hr4 (by simp;omega) (((u8l (by simp):U8s [64,1,1,0]).append hu).append (u8l (by simp)))).Q ?_
  rintro r5 s5 ⟨rfl,rfl⟩
  simp only [↓vcPre,↓z0,↓reduceIte,vcPost,vcStd,Nat.reduceEqDiff,reduceCtorEq,Nat.reduceAdd,Nat.reduceLeDiff,Int.reduceLT,Int.reduceLE,↓u_setN]
  exact hn _ (Store.sub_trans hs hs4)
def g7:At:=⟨1,[],16909060,true,5,true,6,true,[1,2]⟩
theorem g7_enc:encOk g7:=⟨by decide,by decide,by decide⟩
def ok7 (x:At):Prop:=encOk x∧(encA x).length≤1000000
theorem xh {B T:Store} {p12 p14:Nat} {v9 v11 v13:AV} {E:List (Nat×AV)}
 (hw:WeakE ((9,v9)::(11,v11)::(12,.ptr p12 0)::(13,v13)::(14,.ptr p14 0)::E) T (fun e' T'=>e'=((9,v9)::(11,v11)::(12,.ptr p12 0)::(13,v13)::(14,.ptr p14 0)::E)∧∃ x:At,T' p14=some (.box x.c)∧ok7 x∧T' p12=some (.box g7.c)∧Store.sub B T'))
 (hn:∀ s',Store.sub B s'→n [(9,v9),(11,v11),(12,.ptr p12 0),(13,v13),(172,.bool false)] s'):bwp Tryz.prog Ts14.t8_157 ((9,v9)::(11,v11)::(12,.ptr p12 0)::(13,v13)::(14,.ptr p14 0)::E) T n rr xx:=by
 simp only [Ts14.t8_157]
 have e9:∀ x:At,x.c.length=9:=fun _=>rfl
 have t9:∀ x:At,List.take 9 x.c=x.c:=fun _=>rfl
 simp only [↓vcPre,↓z0,↓reduceIte,vcPost,vcStd,Nat.reduceEqDiff,reduceCtorEq,Nat.reduceAdd,Nat.reduceLeDiff,Int.reduceLT,Int.reduceLE,↓u_setN]
 refine WkQ.of (hw.mono fun e' T' h => ?_)
 obtain ⟨rfl,x,h14,⟨hx,hxl⟩,h12,hB⟩:=h
 simp only [h14,h12,e9,t9,Nat.le_refl,↓vcPre,↓z0,↓reduceIte,vcPost,vcStd,Nat.reduceEqDiff,reduceCtorEq,Nat.reduceAdd,Nat.reduceLeDiff,Int.reduceLT,Int.reduceLE,↓u_setN]
 refine (c33 x g7 hx.ok g7_enc.ok hx).Q ?_
 simp only [h14,h12,e9,t9,Nat.le_refl,↓vcPre,↓z0,↓reduceIte,vcPost,vcStd,Nat.reduceEqDiff,reduceCtorEq,Nat.reduceAdd,Nat.reduceLeDiff,Int.reduceLT,Int.reduceLE,↓u_setN]
 refine (c33 g7 x g7_enc.ok hx.ok g7_enc).Q ?_
 simp only [h14,h12,e9,t9,Nat.le_refl,↓vcPre,↓z0,↓reduceIte,vcPost,vcStd,Nat.reduceEqDiff,reduceCtorEq,Nat.reduceAdd,Nat.reduceLeDiff,Int.reduceLT,Int.reduceLE,↓u_setN]
 refine (s11 x hx T').Q ?_
 rintro y s ⟨hs,hy⟩
 simp only [↓vcPre,↓z0,↓reduceIte,vcPost,vcStd,Nat.reduceEqDiff,reduceCtorEq,Nat.reduceAdd,Nat.reduceLeDiff,Int.reduceLT,Int.reduceLE,↓u_setN]
 refine (s15 (Rd.own hy) hxl (z83 x)).Q ?_
 rintro r s2 ⟨rfl,rfl⟩
 simp only [↓vcPre,↓z0,↓reduceIte,vcPost,vcStd,Nat.reduceEqDiff,reduceCtorEq,Nat.reduceAdd,Nat.reduceLeDiff,Int.reduceLT,Int.reduceLE,↓u_setN]
 exact hn _ (Store.sub_trans hB hs)
theorem z5q {T σ:Store} {C F:List Int} (hC:U8s C) (hF:U8s F) (lC:C.length≤1000) (lF:F.length≤1000) (E:List (Nat×AV)) (hs:Store.sub σ T) (hr:∀ t',Store.sub σ t'→rr [(0,.bool true)] t') :
 bwp Tryz.prog Ts14.t8_173 ((9,.sl 1 (C.map cB))::(11,.sl 1 (F.map cB))::E) T n rr xx:=by
 simp only [Ts14.t8_173]
 simp only [↓vcPre,↓z0,↓reduceIte,vcPost,vcStd,Nat.reduceEqDiff,reduceCtorEq,Nat.reduceAdd,Nat.reduceLeDiff,Int.reduceLT,Int.reduceLE,↓u_setN]
 refine (s15 (σ:=T) (B:=C) Rd.sl (by omega) hC).Q ?_
 rintro r s ⟨rfl,rfl⟩
 simp only [↓vcPre,↓z0,↓reduceIte,vcPost,vcStd,Nat.reduceEqDiff,reduceCtorEq,Nat.reduceAdd,Nat.reduceLeDiff,Int.reduceLT,Int.reduceLE,↓u_setN]
 refine (s15 (σ:=s) (B:=F) Rd.sl (by omega) hF).Q ?_
 rintro r s2 ⟨rfl,rfl⟩
 simp only [↓vcPre,↓z0,↓reduceIte,vcPost,vcStd,Nat.reduceEqDiff,reduceCtorEq,Nat.reduceAdd,Nat.reduceLeDiff,Int.reduceLT,Int.reduceLE,↓u_setN]
 refine (s15 (σ:=s2) (B:=[]) Rd.nils (by simp) (u8l (by simp))).Q ?_
 rintro r s3 ⟨rfl,rfl⟩
 simp only [↓vcPre,↓z0,↓reduceIte,vcPost,vcStd,Nat.reduceEqDiff,reduceCtorEq,Nat.reduceAdd,Nat.reduceLeDiff,Int.reduceLT,Int.reduceLE,↓u_setN]
 refine c17.Q ?_
 simp only [↓vcPre,↓z0,↓reduceIte,vcPost,vcStd,Nat.reduceEqDiff,reduceCtorEq,Nat.reduceAdd,Nat.reduceLeDiff,Int.reduceLT,Int.reduceLE,↓u_setN]
 exact hr _ hs
theorem z33:ok7 { g7 with cms:=List.replicate 33 0 }:=⟨⟨by decide,by decide,by decide⟩,by decide+kernel⟩
set_option maxHeartbeats 1000000 in
theorem z77 {T σ:Store} {p:Nat} {C F:List Int} (hC:U8s C) (hF:U8s F) (lC:C.length≤1000) (lF:F.length≤1000)
 (hw:WeakE [(9,.sl 1 (C.map cB)),(11,.sl 1 (F.map cB)),(12,.ptr p 0)] T (fun e' T'=>e'=[(9,.sl 1 (C.map cB)),(11,.sl 1 (F.map cB)),(12,.ptr p 0)]∧T' p=some (.box g7.c)∧Store.sub σ T')) (hr:∀ t',Store.sub σ t'→rr [(0,.bool true)] t') :
 bwp Tryz.prog Ts14.t8_13 [(9,.sl 1 (C.map cB)),(11,.sl 1 (F.map cB)),(12,.ptr p 0)] T n rr xx:=by
 simp only [Ts14.t8_13,z3v]
 have e9:∀ x:At,x.c.length=9:=fun _=>rfl
 have t9:∀ x:At,List.take 9 x.c=x.c:=fun _=>rfl
 have spZ:∀ x:At,splice 0 x.c zC=some x.c:=fun _=>rfl
 simp only [↓vcPre,↓z0,↓reduceIte,vcPost,vcStd,Nat.reduceEqDiff,reduceCtorEq,Nat.reduceAdd,Nat.reduceLeDiff,Int.reduceLT,Int.reduceLE,↓u_setN]
 refine WkQ.of (hw.mono fun e' B h => ?_)
 obtain ⟨rfl,hp,hs⟩:=h
 simp only [↓vcPre,↓z0,↓reduceIte,vcPost,vcStd,Nat.reduceEqDiff,reduceCtorEq,Nat.reduceAdd,Nat.reduceLeDiff,Int.reduceLT,Int.reduceLE,↓u_setN]
 refine LoopQ.inv (S:=Nat) (fun k=>[(9,.sl 1 (C.map cB)),(11,.sl 1 (F.map cB)),(12,.ptr p 0),(13,.int .i64 (k:Int))]) (fun _=>B) (fun k=>k≤9) (fun k=>10 - k) 0 rfl (Store.sub_refl _) (by omega) ?_
 rintro k hk
 simp only [↓vcPre,↓z0,↓reduceIte,vcPost,vcStd,Nat.reduceEqDiff,reduceCtorEq,Nat.reduceAdd,Nat.reduceLeDiff,Int.reduceLT,Int.reduceLE,↓u_setN]
 refine ⟨fun c1 => ?_,fun c1 => ?_⟩
 ·have ek:IntKind.i64.wrap ((k:Int)+1)=((k+1:Nat):Int):=by rw [zd (by unfold I64;omega)];omega
  simp only [hp,e9,t9,Nat.le_refl,↓vcPre,↓z0,↓reduceIte,vcPost,vcStd,Nat.reduceEqDiff,reduceCtorEq,Nat.reduceAdd,Nat.reduceLeDiff,Int.reduceLT,Int.reduceLE,↓u_setN]
  refine AllocQ.i0 fun p14 h14 => ?_
  have s0:Store.sub B ((B.set p14 (.box zC)).set p14 (.box g7.c)):=za (Store.sub_set B p14 _ h14) h14
  have U14:((B.set p14 (.box zC)).set p14 (.box g7.c)) p14=some (.box g7.c):=Store.set_same _ _ _
  have Up:=s0 _ _ hp
  have hpp:¬ p=p14:=fun e=>by subst e;rw [hp] at h14;cases h14
  have b1:splice 0 [.int .i64 3] g7.c=some ({ g7 with org:=3 }:At).c:=rfl
  have b2:splice 2 [.int .u32 0] g7.c=some ({ g7 with nxt:=0 }:At).c:=rfl
  have b3:splice 3 [.bool false] g7.c=some ({ g7 with hm:=false }:At).c:=rfl
  have b4:splice 5 [.bool false] g7.c=some ({ g7 with hp:=false }:At).c:=rfl
  have b8:splice 7 [.bool false] g7.c=some ({ g7 with atm:=false }:At).c:=rfl
  have b5:∀ v:AV,splice 8 [v] g7.c=some (g7.cO v):=fun _=>rfl
  have b7:∀ v:AV,splice 1 [v] g7.c=some [.int .i64 1,v,.int .u32 16909060,.bool true,.int .u32 5,.bool true,.int .u32 6,.bool true,.sl 1 [[.int .u32 1],[.int .u32 2]]]:=fun _=>rfl
  have m3:alv (.mksl 1 3) [.int .u32 2,.int .u32 1,.int .u32 1]=some (.arr 1 (([2,1,1]:List Int).map cU),fun id => .os id 1 0 3):=rfl
  have bs:pv (.build [.int .i64 0,.nils] []) []=some (.agg [.int .i64 0,.nils]):=rfl
  simp only [spZ,e9,t9,Nat.le_refl,b1,b2,b3,b4,b8,m3,bs,↓vcPre,↓z0,↓reduceIte,vcPost,vcStd,Nat.reduceEqDiff,reduceCtorEq,Nat.reduceAdd,Nat.reduceLeDiff,Int.reduceLT,Int.reduceLE,↓u_setN]
  have nxt:∀ s',Store.sub B s' → @NextQ [(9,.sl 1 (C.map cB)),(11,.sl 1 (F.map cB)),(12,.ptr p 0),(13,.int .i64 ((k+1:Nat):Int))] s' ⟨fun e' σ'=>∃ s',e'=[(9,.sl 1 (C.map cB)),(11,.sl 1 (F.map cB)),(12,.ptr p 0),(13,.int .i64 ((s':Nat):Int))]∧Store.sub B σ'∧10 - s'<10 - k∧s'≤9⟩:=fun s' h=>NextQ.to (S:=Nat) (env:=fun k=>[(9,.sl 1 (C.map cB)),(11,.sl 1 (F.map cB)),(12,.ptr p 0),(13,.int .i64 (k:Int))]) (st:=fun _=>B) (m:=fun k=>10 - k) (ok:=fun k=>k≤9) (s:=k) (k+1) rfl h (by omega) (by omega)
  generalize (B.set p14 (.box zC)).set p14 (.box g7.c)=U at s0 U14 Up ⊢
  have same:∀ (x:At) (e:Env) (V:Store),V p14=some (.box x.c)→ok7 x→V p=some (.box g7.c)→Store.sub B V→WeakE e V (fun e' T'=>e'=e∧∃ x:At,T' p14=some (.box x.c)∧ok7 x∧T' p=some (.box g7.c)∧Store.sub B T'):=fun x e V h1 h2 h3 h4=>WeakE.pure ⟨rfl,x,h1,h2,h3,h4⟩
  have st:∀ (x:At),ok7 x→∀ e,WeakE e (U.set p14 (.box x.c)) (fun e' T'=>e'=e∧∃ x:At,T' p14=some (.box x.c)∧ok7 x∧T' p=some (.box g7.c)∧Store.sub B T'):=fun x hx e=>same x e _ (Store.set_same _ _ _) hx (by rw [Store.set_ne _ _ hpp];exact Up) (za s0 h14)
  have d7:∀ x:At,x.path.length≤1000∧x.cms.length≤1000∧(∀ s ∈ x.path,s.ls.length≤1000)∧(encA x).length≤1000000→ok7 x:=fun x h=>⟨⟨h.1,h.2.2.1,h.2.1⟩,h.2.2.2⟩
  have fin:∀ s',Store.sub B s'→True:=fun _ _=>trivial
  refine ⟨fun _ => ?_,fun _=>⟨fun _ => ?_,fun _=>⟨fun _ => ?_,fun _=>⟨fun _ => ?_,fun _=>⟨fun _ => ?_,fun _=>⟨fun _ => ?_,fun _=>⟨fun _ => ?_,fun _=>⟨fun _ => ?_,fun _ => ?_⟩⟩⟩⟩⟩⟩⟩⟩
  rotate_left 4
  ·refine AllocQ.i0 fun q hq => ?_
   have hpq:¬ p14=q:=fun e=>by subst e;rw [U14] at hq;cases hq
   have hqp:¬ q=p14:=fun e=>hpq e.symm
   have hpq':¬ p=q:=fun e=>by subst e;rw [Up] at hq;cases hq
   simp only [U14,b5,hpq,hqp,↓vcPre,↓z0,↓reduceIte,vcPost,vcStd,Nat.reduceEqDiff,reduceCtorEq,Nat.reduceAdd,Nat.reduceLeDiff,Int.reduceLT,Int.reduceLE,↓u_setN]
   refine xh (WeakE.frzBox p14 8 (Store.set_same _ _ _) rfl (by rw [Store.set_ne _ _ hqp,Store.set_same]) (by decide) (same { g7 with cms:=[2,1,1] } _ _ (Store.set_same _ _ _) (d7 _ (by decide)) ?_ ?_)) fun s' h => ?_
   ·rw [Store.set_ne _ _ hpp,Store.del_ne _ hpq',Store.set_ne _ _ hpp,Store.set_ne _ _ hpq'];exact Up
   ·exact za (sub_del (za (Store.sub_trans s0 (Store.sub_set U q _ hq)) h14) (zk s0 hq)) h14
   ·simp only [ek,↓vcPre,↓z0,↓reduceIte,vcPost,vcStd,Nat.reduceEqDiff,reduceCtorEq,Nat.reduceAdd,Nat.reduceLeDiff,Int.reduceLT,Int.reduceLE,↓u_setN];exact nxt s' h
  ·refine ⟨by decide,AllocQ.i0 fun q hq => ?_⟩
   have hpq:¬ p14=q:=fun e=>by subst e;rw [U14] at hq;cases hq
   have hqp:¬ q=p14:=fun e=>hpq e.symm
   have hpq':¬ p=q:=fun e=>by subst e;rw [Up] at hq;cases hq
   simp only [U14,b5,hpq,hqp,↓vcPre,↓z0,↓reduceIte,vcPost,vcStd,Nat.reduceEqDiff,reduceCtorEq,Nat.reduceAdd,Nat.reduceLeDiff,Int.reduceLT,Int.reduceLE,↓u_setN]
   refine xh (WeakE.frzBox p14 8 (Store.set_same _ _ _) rfl (by rw [Store.set_ne _ _ hqp,Store.set_same]) (by decide) (same { g7 with cms:=List.replicate 33 0 } _ _ (Store.set_same _ _ _) z33 ?_ ?_)) fun s' h => ?_
   ·rw [Store.set_ne _ _ hpp,Store.del_ne _ hpq',Store.set_ne _ _ hpp,Store.set_ne _ _ hpq'];exact Up
   ·exact za (sub_del (za (Store.sub_trans s0 (Store.sub_set U q _ hq)) h14) (zk s0 hq)) h14
   ·simp only [ek,↓vcPre,↓z0,↓reduceIte,vcPost,vcStd,Nat.reduceEqDiff,reduceCtorEq,Nat.reduceAdd,Nat.reduceLeDiff,Int.reduceLT,Int.reduceLE,↓u_setN];exact nxt s' h
  ·refine AllocQ.i0 fun q hq => ?_
   have hpq:¬ p14=q:=fun e=>by subst e;rw [U14] at hq;cases hq
   have hqp:¬ q=p14:=fun e=>hpq e.symm
   have hpq':¬ p=q:=fun e=>by subst e;rw [Up] at hq;cases hq
   simp only [U14,b7,hpq,hqp,↓vcPre,↓z0,↓reduceIte,vcPost,vcStd,Nat.reduceEqDiff,reduceCtorEq,Nat.reduceAdd,Nat.reduceLeDiff,Int.reduceLT,Int.reduceLE,↓u_setN]
   refine xh (WeakE.frzBox p14 1 (Store.set_same _ _ _) rfl (by rw [Store.set_ne _ _ hqp,Store.set_same]) (by decide) (WeakE.boxImp p14 (Store.set_same _ _ _) (cs':=({ g7 with path:=[⟨0,[]⟩] }:At).c) ?_ (same { g7 with path:=[⟨0,[]⟩] } _ _ (Store.set_same _ _ _) (d7 _ (by decide)) ?_ ?_))) fun s' h => ?_
   ·exact .cons (.refl rfl) (.cons (Imp.sl (.cons (.cons (.refl rfl) (.cons .nils .nil)) .nil)) (.cons (.refl rfl) (.cons (.refl rfl) (.cons (.refl rfl) (.cons (.refl rfl) (.cons (.refl rfl) (.cons (.refl rfl) (.cons (.refl rfl) .nil))))))))
   ·rw [Store.set_ne _ _ hpp,Store.set_ne _ _ hpp,Store.del_ne _ hpq',Store.set_ne _ _ hpp,Store.set_ne _ _ hpq'];exact Up
   ·exact za (za (sub_del (za (Store.sub_trans s0 (Store.sub_set U q _ hq)) h14) (zk s0 hq)) h14) h14
   ·simp only [ek,↓vcPre,↓z0,↓reduceIte,vcPost,vcStd,Nat.reduceEqDiff,reduceCtorEq,Nat.reduceAdd,Nat.reduceLeDiff,Int.reduceLT,Int.reduceLE,↓u_setN];exact nxt s' h
  ·refine xh (st _ (d7 _ (by decide)) _) fun s' h => ?_
   simp only [ek,↓vcPre,↓z0,↓reduceIte,vcPost,vcStd,Nat.reduceEqDiff,reduceCtorEq,Nat.reduceAdd,Nat.reduceLeDiff,Int.reduceLT,Int.reduceLE,↓u_setN];exact nxt s' h
  ·refine xh (same g7 _ _ U14 (d7 _ (by decide)) Up s0) fun s' h => ?_
   simp only [ek,↓vcPre,↓z0,↓reduceIte,vcPost,vcStd,Nat.reduceEqDiff,reduceCtorEq,Nat.reduceAdd,Nat.reduceLeDiff,Int.reduceLT,Int.reduceLE,↓u_setN];exact nxt s' h
  all_goals
   refine xh (st _ (d7 _ (by decide)) _) fun s' h => ?_
   simp only [ek,↓vcPre,↓z0,↓reduceIte,vcPost,vcStd,Nat.reduceEqDiff,reduceCtorEq,Nat.reduceAdd,Nat.reduceLeDiff,Int.reduceLT,Int.reduceLE,↓u_setN];exact nxt s' h
 ·have:k=9:=by omega
  subst this
  exact z5q hC hF lC lF _ hs hr
set_option maxHeartbeats 1000000 in
theorem z5p {T τ σ:Store} {C F:List Int} {y:AV} (hC:U8s C) (hF:U8s F) (lC:C.length≤1000) (lF:F.length≤1000) (hy:Own 1 τ (F.map cB) y T) (hτ:Store.sub τ T) (hs:Store.sub σ τ) (hr:∀ t',Store.sub σ t'→rr [(0,.bool true)] t') :
 bwp Tryz.prog Ts14.t8_121 [(9,.sl 1 (C.map cB)),(11,y)] T n rr xx:=by
 simp only [Ts14.t8_121,z3v]
 have e9:∀ x:At,x.c.length=9:=fun _=>rfl
 have t9:∀ x:At,List.take 9 x.c=x.c:=fun _=>rfl
 have spZ:∀ x:At,splice 0 x.c zC=some x.c:=fun _=>rfl
 simp only [↓vcPre,↓z0,↓reduceIte,vcPost,vcStd,Nat.reduceEqDiff,reduceCtorEq,Nat.reduceAdd,Nat.reduceLeDiff,Int.reduceLT,Int.reduceLE,↓u_setN]
 refine WkQ.of (WeakE.own (τ:=τ) 11 rfl hy hτ fun U hU _ _=>WeakE.pure ?_)
 have sU:=Store.sub_trans hs hU
 simp only [↓vcPre,↓z0,↓reduceIte,vcPost,vcStd,Nat.reduceEqDiff,reduceCtorEq,Nat.reduceAdd,Nat.reduceLeDiff,Int.reduceLT,Int.reduceLE,↓u_setN]
 refine AllocQ.i0 fun q hq => ?_
 have bz:pv (.build zC [(0,1),(2,1),(3,1),(4,1),(5,1),(6,1),(7,1),(8,1)]) [.int .i64 1,.int .u32 16909060,.bool true,.int .u32 5,.bool true,.int .u32 6,.bool true,.os q 1 0 2]=some (.agg [.int .i64 1,.nils,.int .u32 16909060,.bool true,.int .u32 5,.bool true,.int .u32 6,.bool true,.os q 1 0 2]):=rfl
 have spz:splice 0 [.int .i64 1,.nils,.int .u32 16909060,.bool true,.int .u32 5,.bool true,.int .u32 6,.bool true,.os q 1 0 2] zC=some [.int .i64 1,.nils,.int .u32 16909060,.bool true,.int .u32 5,.bool true,.int .u32 6,.bool true,.os q 1 0 2]:=rfl
 simp only [bz,↓vcPre,↓z0,↓reduceIte,vcPost,vcStd,Nat.reduceEqDiff,reduceCtorEq,Nat.reduceAdd,Nat.reduceLeDiff,Int.reduceLT,Int.reduceLE,↓u_setN]
 refine AllocQ.i1 fun p hpq hqp hp => ?_
 simp only [spz,hpq,hqp,↓vcPre,↓z0,↓reduceIte,vcPost,vcStd,Nat.reduceEqDiff,reduceCtorEq,Nat.reduceAdd,Nat.reduceLeDiff,Int.reduceLT,Int.reduceLE,↓u_setN]
 have hσq:σ q=none:=zk sU hq
 have hσp:σ p=none:=zk sU hp
 refine z77 (σ:=σ) hC hF lC lF (WeakE.frzBox p 8 (Store.set_same _ _ _) rfl (by simp only [Store.set_ne _ _ hqp,Store.set_same];rfl) (by simp) (WeakE.cell p 1 (Store.set_same _ _ _) rfl (fun G w v h=>z3o 2 G w v h) rfl (WeakE.pure ⟨rfl,Store.set_same _ _ _,?_⟩))) hr
 exact za (za (sub_del (za (za (za sU hσq) hσp) hσp) hσq) hσp) hσp
def com7 (k:Nat):List Int:=[208,8,0,132]++(List.range k).flatMap fun i:Nat=>[0,0,0,(40 - (i:Int)) % 256]
theorem un (k:Nat):com7 (k+1)=com7 k++[0,0,0,(40 - (k:Int)) % 256]:=by simp [com7,List.range_succ]
theorem z1z (k:Nat):(com7 k).length=4+4*k:=by
 induction k with
 | zero=>rfl
 | succ k ih=>rw [un,List.length_append,ih];simp;omega
theorem z82 (k:Nat):U8s (com7 k):=by
 induction k with
 | zero=>exact u8l (by decide)
 | succ k ih=>rw [un];exact ih.append (u8l (by intro x hx;simp at hx;omega))
set_option maxHeartbeats 1000000 in
theorem z5o {T:Store} (E:List (Nat×AV)) (hr:∀ t',Store.sub T t'→rr [(0,.bool true)] t'):bwp Tryz.prog Ts14.t8_101 E T n rr xx:=by
 simp only [Ts14.t8_101]
 simp only [wz,↓vcPre,↓z0,↓reduceIte,vcPost,vcStd,Nat.reduceEqDiff,reduceCtorEq,Nat.reduceAdd,Nat.reduceLeDiff,Int.reduceLT,Int.reduceLE,↓u_setN]
 refine AllocQ.i0 fun q hq => ?_
 simp only [↓vcPre,↓z0,↓reduceIte,vcPost,vcStd,Nat.reduceEqDiff,reduceCtorEq,Nat.reduceAdd,Nat.reduceLeDiff,Int.reduceLT,Int.reduceLE,↓u_setN]
 have oq:Own 1 T ((com7 0).map cB) (.os q 1 0 4) (T.set q (.arr 1 [[.int .u8 208],[.int .u8 8],[.int .u8 0],[.int .u8 132]])):=Own.new (L:=[[.int .u8 208],[.int .u8 8],[.int .u8 0],[.int .u8 132]]) hq
 have sq:=Store.sub_set T q (.arr 1 [[.int .u8 208],[.int .u8 8],[.int .u8 0],[.int .u8 132]]) hq
 generalize T.set q (.arr 1 [[.int .u8 208],[.int .u8 8],[.int .u8 0],[.int .u8 132]])=U at oq sq ⊢
 refine LoopQ.inv (S:=Nat×AV×Store) (fun w=>[(9,w.2.1),(10,.int .i64 (w.1:Int))]) (fun w=>w.2.2) (fun w=>w.1≤33∧Store.sub T w.2.2∧Own 1 T ((com7 w.1).map cB) w.2.1 w.2.2) (fun w=>34 - w.1) (0,.os q 1 0 4,U) rfl (Store.sub_refl _) ⟨by simp only;omega,sq,oq⟩ ?_
 rintro ⟨k,v,s⟩ ⟨hk,hs,ho⟩
 simp only at hk hs ho
 simp only [↓vcPre,↓z0,↓reduceIte,vcPost,vcStd,Nat.reduceEqDiff,reduceCtorEq,Nat.reduceAdd,Nat.reduceLeDiff,Int.reduceLT,Int.reduceLE,↓u_setN]
 refine ⟨fun c1 => ?_,fun c1 => ?_⟩
 ·have ek:IntKind.i64.wrap ((k:Int)+1)=((k+1:Nat):Int):=by rw [zd (by unfold I64;omega)];omega
  have e40:IntKind.u8.wrap (IntKind.i64.wrap (40 - (k:Int)))=(40 - (k:Int)) % 256:=by rw [zd (by unfold I64;omega),u8w]
  simp only [e40,wz,↓vcPre,↓z0,↓reduceIte,vcPost,vcStd,Nat.reduceEqDiff,reduceCtorEq,Nat.reduceAdd,Nat.reduceLeDiff,Int.reduceLT,Int.reduceLE,↓u_setN]
  refine AllocQ.i0 fun d hd => ?_
  simp only [↓vcPre,↓z0,↓reduceIte,vcPost,vcStd,Nat.reduceEqDiff,reduceCtorEq,Nat.reduceAdd,Nat.reduceLeDiff,Int.reduceLT,Int.reduceLE,↓u_setN]
  have sd:=Store.sub_set s d (.arr 1 [[.int .u8 0],[.int .u8 0],[.int .u8 0],[.int .u8 ((40 - (k:Int)) % 256)]]) hd
  refine Own.appM (bytes:=1) (τ:=T) (Store.sub_trans hs sd) (ho.mono sd) (zm (Store.set_same _ _ _) rfl) (by simp [z1z];omega) fun v' s' hs' ho' => ?_
  rw [ek]
  refine NextQ.to (k+1,v',s') rfl (Store.sub_refl _) (by simp only;omega) ⟨by simp only;omega,hs',?_⟩
  simp only
  rw [un,List.map_append]
  exact ho'
 ·have:k=33:=by omega
  subst this
  refine WkQ.of (WeakE.own (τ:=T) 9 rfl ho hs fun V hV _ _=>WeakE.pure ?_)
  have lC:=z1z 33
  have uC:=z82 33
  generalize com7 33=C at lC uC ⊢
  have w4:IntKind.i64.wrap ((C.length:Int) - 4)=132:=by rw [lC];decide
  simp only [w4,↓vcPre,↓z0,↓reduceIte,vcPost,vcStd,Nat.reduceEqDiff,reduceCtorEq,Nat.reduceAdd,Nat.reduceLeDiff,Int.reduceLT,Int.reduceLE,↓u_setN]
  refine AllocQ.i0 fun d hd => ?_
  simp only [w4,↓vcPre,↓z0,↓reduceIte,vcPost,vcStd,Nat.reduceEqDiff,reduceCtorEq,Nat.reduceAdd,Nat.reduceLeDiff,Int.reduceLT,Int.reduceLE,↓u_setN]
  refine ⟨by simp [lC],?_⟩
  have d1:List.drop (Int.toNat 0) (List.take ((some 132).getD (C.length:Int)).toNat (C.map cB))=(C.take 132).map cB:=by simp [List.map_take]
  rw [d1]
  have lF:(C.take 132).length=132:=by rw [List.length_take,lC];rfl
  have uF:=uC.take 132
  generalize C.take 132=F at lF uF ⊢
  have sd:=Store.sub_set V d (.arr 1 []) hd
  refine Own.appM (bytes:=1) (τ:=V) sd (Own.new (L:=[]) hd) vw (by simp;omega) fun y W hW hy => ?_
  rw [List.nil_append] at hy
  obtain ⟨g,rfl,hg,hh⟩:∃ g,y = .os g 1 0 F.length∧V g=none∧W g=some (.arr 1 (F.map cB)):=by
   rcases hy with ⟨h0,_⟩ | ⟨g,e,h1,h2⟩
   ·have:=List.map_eq_nil_iff.1 h0;rw [this] at lF;simp at lF
   ·exact ⟨g,by rw [e,List.length_map],h1,h2⟩
  simp only [hh,↓vcPre,↓z0,↓reduceIte,vcPost,vcStd,Nat.reduceEqDiff,reduceCtorEq,Nat.reduceAdd,Nat.reduceLeDiff,Int.reduceLT,Int.reduceLE,↓u_setN]
  refine ⟨by omega,by omega,?_⟩
  simp only [cB,↓vcPre,↓z0,↓reduceIte,vcPost,vcStd,Nat.reduceEqDiff,reduceCtorEq,Nat.reduceAdd,Nat.reduceLeDiff,Int.reduceLT,Int.reduceLE,↓u_setN]
  have hst:(F.map cB).set (0+Int.toNat 3) [.int .u8 128]=(F.set 3 128).map cB:=by rw [List.map_set];rfl
  rw [hst]
  have h2:Own 1 V ((F.set 3 128).map cB) (.os g 1 0 F.length) (W.set g (.arr 1 ((F.set 3 128).map cB))) := .inr ⟨g,by simp,hg,Store.set_same _ _ _⟩
  have uF2:U8s (F.set 3 128):=fun z hz=>by
   rcases List.mem_or_eq_of_mem_set hz with h | h
   ·exact uF z h
   ·rw [h];omega
  exact z5p (σ:=T) (τ:=V) uC uF2 (by omega) (by rw [List.length_set];omega) h2 (za hW hg) hV hr
theorem zcu:alv (.mksl 1 10) [.int .u32 0,.int .u32 16777215,.int .u32 16777216,.int .u32 2130706431,.int .u32 2130706432,.int .u32 2147483647,.int .u32 2147483648,.int .u32 3758096383,.int .u32 3758096384,.int .u32 4294967295]=some (.arr 1 (([0,16777215,16777216,2130706431,2130706432,2147483647,2147483648,3758096383,3758096384,4294967295]:List Int).map cU),fun id => .os id 1 0 10):=rfl
theorem zep (a b c d:Int):alv (.mksl 1 7) [.int .u8 64,.int .u8 3,.int .u8 4,.int .u8 a,.int .u8 b,.int .u8 c,.int .u8 d]=some (.arr 1 (([64,3,4,a,b,c,d]:List Int).map cB),fun id => .os id 1 0 7):=rfl
set_option maxHeartbeats 1000000 in
theorem z78 {T:Store} (E:List (Nat×AV)) (hr:∀ t',Store.sub T t'→rr [(0,.bool true)] t'):bwp Tryz.prog Ts14.t8_73 E T n rr xx:=by
 simp only [Ts14.t8_73]
 simp only [zcu,↓vcPre,↓z0,↓reduceIte,vcPost,vcStd,Nat.reduceEqDiff,reduceCtorEq,Nat.reduceAdd,Nat.reduceLeDiff,Int.reduceLT,Int.reduceLE,↓u_setN]
 refine AllocQ.i0 fun q hq => ?_
 simp only [↓vcPre,↓z0,↓reduceIte,vcPost,vcStd,Nat.reduceEqDiff,reduceCtorEq,Nat.reduceAdd,Nat.reduceLeDiff,Int.reduceLT,Int.reduceLE,↓u_setN]
 have sq:=Store.sub_set T q (.arr 1 (([0,16777215,16777216,2130706431,2130706432,2147483647,2147483648,3758096383,3758096384,4294967295]:List Int).map cU)) hq
 have Uq:(T.set q (.arr 1 (([0,16777215,16777216,2130706431,2130706432,2147483647,2147483648,3758096383,3758096384,4294967295]:List Int).map cU))) q=some (.arr 1 (([0,16777215,16777216,2130706431,2130706432,2147483647,2147483648,3758096383,3758096384,4294967295]:List Int).map cU)):=Store.set_same _ _ _
 have lN:([0,16777215,16777216,2130706431,2130706432,2147483647,2147483648,3758096383,3758096384,4294967295]:List Int).length=10:=rfl
 generalize ([0,16777215,16777216,2130706431,2130706432,2147483647,2147483648,3758096383,3758096384,4294967295]:List Int)=N at sq Uq lN ⊢
 generalize T.set q (.arr 1 (N.map cU))=U at sq Uq ⊢
 refine LoopQ.inv (S:=Nat) (fun k=>[(73,.os q 1 0 10),(74,.int .i64 10),(75,.int .i64 (k:Int))]) (fun _=>U) (fun k=>k≤10) (fun k=>11 - k) 0 rfl (Store.sub_refl _) (by omega) ?_
 rintro k hk
 simp only [↓vcPre,↓z0,↓reduceIte,vcPost,vcStd,Nat.reduceEqDiff,reduceCtorEq,Nat.reduceAdd,Nat.reduceLeDiff,Int.reduceLT,Int.reduceLE,↓u_setN]
 refine ⟨fun c1 => ?_,fun c1 => ?_⟩
 ·have ek:IntKind.i64.wrap ((k:Int)+1)=((k+1:Nat):Int):=by rw [zd (by unfold I64;omega)];omega
  simp only [Uq,↓vcPre,↓z0,↓reduceIte,vcPost,vcStd,Nat.reduceEqDiff,reduceCtorEq,Nat.reduceAdd,Nat.reduceLeDiff,Int.reduceLT,Int.reduceLE,↓u_setN]
  refine ⟨by omega,by omega,by simp [cU],?_⟩
  have hkN:0+k<N.length:=by omega
  simp only [cU,↓vcPre,↓z0,↓reduceIte,vcPost,vcStd,Nat.reduceEqDiff,reduceCtorEq,Nat.reduceAdd,Nat.reduceLeDiff,Int.reduceLT,Int.reduceLE,↓u_setN]
  generalize N[0+k]=a
  refine (c31 a).Q ?_
  simp only [↓vcPre,↓z0,↓reduceIte,vcPost,vcStd,Nat.reduceEqDiff,reduceCtorEq,Nat.reduceAdd,Nat.reduceLeDiff,Int.reduceLT,Int.reduceLE,↓u_setN]
  refine (c32 a).Q ?_
  have bn:∀ c:Bool,(c != c)=false:=fun c=>by cases c <;> rfl
  simp only [z3w,bn,u8w,zep,↓vcPre,↓z0,↓reduceIte,vcPost,vcStd,Nat.reduceEqDiff,reduceCtorEq,Nat.reduceAdd,Nat.reduceLeDiff,Int.reduceLT,Int.reduceLE,↓u_setN]
  refine AllocQ.i0 fun d hd => ?_
  simp only [↓vcPre,↓z0,↓reduceIte,vcPost,vcStd,Nat.reduceEqDiff,reduceCtorEq,Nat.reduceAdd,Nat.reduceLeDiff,Int.reduceLT,Int.reduceLE,↓u_setN]
  have sd:=Store.sub_set U d (.arr 1 (([64,3,4,shrInt .u32 a 24 % 256,shrInt .u32 a 16 % 256,shrInt .u32 a 8 % 256,a % 256]:List Int).map cB)) hd
  have Rd7:Rd 1 (U.set d (.arr 1 (([64,3,4,shrInt .u32 a 24 % 256,shrInt .u32 a 16 % 256,shrInt .u32 a 8 % 256,a % 256]:List Int).map cB))) (([64,3,4,shrInt .u32 a 24 % 256,shrInt .u32 a 16 % 256,shrInt .u32 a 8 % 256,a % 256]:List Int).map cB) (.os d 1 0 7):=Rd.os (Store.set_same _ _ _)
  refine (s15 Rd7 (by simp) (u8l (by intro x hx;simp at hx;omega))).Q ?_
  rintro r s ⟨rfl,rfl⟩
  simp only [↓vcPre,↓z0,↓reduceIte,vcPost,vcStd,Nat.reduceEqDiff,reduceCtorEq,Nat.reduceAdd,Nat.reduceLeDiff,Int.reduceLT,Int.reduceLE,↓u_setN]
  rw [ek]
  exact NextQ.to (k+1) rfl sd (by omega) (by omega)
 ·exact z5o _ fun t' ht'=>hr _ (Store.sub_trans sq ht')
theorem z30:Pur Tryz.prog 8 [] (.bool true):=by
 refine zp Ts14.F8 (by simp [Ts14.F8,Fn.mkW]) fun σ => ?_
 simp only [Ts14.F8,Fn.mkW,Ts14.b8]
 have m11:alv (.mksl 1 11) [.int .u8 0,.int .u8 64,.int .u8 128,.int .u8 192,.int .u8 96,.int .u8 160,.int .u8 224,.int .u8 80,.int .u8 79,.int .u8 144,.int .u8 208]=some (.arr 1 (fs7.map cB),fun id => .os id 1 0 11):=rfl
 have m9:alv (.mksl 1 9) [.int .u8 2,.int .u8 1,.int .u8 1,.int .u8 0,.int .u8 0,.int .u8 0,.int .u8 1,.int .u8 0,.int .u8 0]=some (.arr 1 (vs7.map cB),fun id => .os id 1 0 9):=rfl
 simp only [↓vcPre,↓z0,↓reduceIte,vcPost,vcStd,Nat.reduceEqDiff,reduceCtorEq,Nat.reduceAdd,Nat.reduceLeDiff,Int.reduceLT,Int.reduceLE,↓u_setN]
 refine LoopQ.inv (S:=Nat) (fun k=>[(1,.int .i64 (k:Int))]) (fun _=>σ) (fun k=>k≤12) (fun k=>13 - k) 0 rfl (Store.sub_refl _) (by omega) ?_
 rintro k hk
 simp only [↓vcPre,↓z0,↓reduceIte,vcPost,vcStd,Nat.reduceEqDiff,reduceCtorEq,Nat.reduceAdd,Nat.reduceLeDiff,Int.reduceLT,Int.reduceLE,↓u_setN]
 refine ⟨fun c1 => ?_,fun c1 => ?_⟩
 ·have ek:IntKind.i64.wrap ((k:Int)+1)=((k+1:Nat):Int):=by rw [zd (by unfold I64;omega)];omega
  have e8:IntKind.u8.wrap (k:Int)=(k:Int):=by rw [u8w];omega
  simp only [m11,↓vcPre,↓z0,↓reduceIte,vcPost,vcStd,Nat.reduceEqDiff,reduceCtorEq,Nat.reduceAdd,Nat.reduceLeDiff,Int.reduceLT,Int.reduceLE,↓u_setN]
  refine AllocQ.i0 fun q hq => ?_
  simp only [↓vcPre,↓z0,↓reduceIte,vcPost,vcStd,Nat.reduceEqDiff,reduceCtorEq,Nat.reduceAdd,Nat.reduceLeDiff,Int.reduceLT,Int.reduceLE,↓u_setN]
  have sT:=Store.sub_set σ q (.arr 1 (fs7.map cB)) hq
  have Tq:(σ.set q (.arr 1 (fs7.map cB))) q=some (.arr 1 (fs7.map cB)):=Store.set_same _ _ _
  generalize σ.set q (.arr 1 (fs7.map cB))=T at sT Tq ⊢
  have lf:fs7.length=11:=rfl
  have hf:∀ i (h:i<fs7.length),0≤fs7[i]∧fs7[i]<256:=by decide
  refine LoopQ.inv (S:=Nat) (fun j=>[(1,.int .i64 (k:Int)),(19,.os q 1 0 11),(20,.int .i64 11),(21,.int .i64 (j:Int))]) (fun _=>T) (fun j=>j≤11) (fun j=>12 - j) 0 rfl (Store.sub_refl _) (by omega) ?_
  rintro j hj
  simp only [↓vcPre,↓z0,↓reduceIte,vcPost,vcStd,Nat.reduceEqDiff,reduceCtorEq,Nat.reduceAdd,Nat.reduceLeDiff,Int.reduceLT,Int.reduceLE,↓u_setN]
  refine ⟨fun d1 => ?_,fun d1 => ?_⟩
  ·have ej:IntKind.i64.wrap ((j:Int)+1)=((j+1:Nat):Int):=by rw [zd (by unfold I64;omega)];omega
   simp only [Tq,↓vcPre,↓z0,↓reduceIte,vcPost,vcStd,Nat.reduceEqDiff,reduceCtorEq,Nat.reduceAdd,Nat.reduceLeDiff,Int.reduceLT,Int.reduceLE,↓u_setN]
   refine ⟨by omega,by omega,by simp [cB],?_⟩
   obtain ⟨f1,f2⟩:=hf (0+j) (by omega)
   simp only [cB,↓vcPre,↓z0,↓reduceIte,vcPost,vcStd,Nat.reduceEqDiff,reduceCtorEq,Nat.reduceAdd,Nat.reduceLeDiff,Int.reduceLT,Int.reduceLE,↓u_setN]
   generalize fs7[0+j]=f at f1 f2 ⊢
   refine LoopQ.inv (S:=Nat) (fun m=>[(1,.int .i64 (k:Int)),(3,.int .u8 f),(4,.int .i64 (m:Int)),(19,.os q 1 0 11),(20,.int .i64 11),(21,.int .i64 (j:Int))]) (fun _=>T) (fun m=>m≤9) (fun m=>10 - m) 0 rfl (Store.sub_refl _) (by omega) ?_
   rintro m hm
   simp only [↓vcPre,↓z0,↓reduceIte,vcPost,vcStd,Nat.reduceEqDiff,reduceCtorEq,Nat.reduceAdd,Nat.reduceLeDiff,Int.reduceLT,Int.reduceLE,↓u_setN]
   refine ⟨fun g1 => ?_,fun g1 => ?_⟩
   ·have em:IntKind.i64.wrap ((m:Int)+1)=((m+1:Nat):Int):=by rw [zd (by unfold I64;omega)];omega
    have em8:IntKind.u8.wrap (m:Int)=(m:Int):=by rw [u8w];omega
    simp only [m9,↓vcPre,↓z0,↓reduceIte,vcPost,vcStd,Nat.reduceEqDiff,reduceCtorEq,Nat.reduceAdd,Nat.reduceLeDiff,Int.reduceLT,Int.reduceLE,↓u_setN]
    refine AllocQ.i0 fun d hd => ?_
    simp only [↓vcPre,↓z0,↓reduceIte,vcPost,vcStd,Nat.reduceEqDiff,reduceCtorEq,Nat.reduceAdd,Nat.reduceLeDiff,Int.reduceLT,Int.reduceLE,↓u_setN]
    have e2:AV.os d 1 (0+Int.toNat 0) (((some (m:Int)).getD ((9:Nat):Int)).toNat - Int.toNat 0) = .os d 1 0 m:=by simp
    refine ⟨⟨by simp,by simp;omega⟩,?_⟩
    simp only [e8,em8,z0z,e2,↓vcPre,↓z0,↓reduceIte,vcPost,vcStd,Nat.reduceEqDiff,reduceCtorEq,Nat.reduceAdd,Nat.reduceLeDiff,Int.reduceLT,Int.reduceLE,↓u_setN]
    have sd:=Store.sub_set T d (.arr 1 (vs7.map cB)) hd
    have Ud:(T.set d (.arr 1 (vs7.map cB))) d=some (.arr 1 (vs7.map cB)):=Store.set_same _ _ _
    generalize T.set d (.arr 1 (vs7.map cB))=U at sd Ud ⊢
    have lv:vs7.length=9:=rfl
    have hv:Rd 1 U ((vs7.take m).map cB) (.os d 1 0 m):=by
     obtain ⟨w,hw1,hw2⟩:=(Rd.os Ud).slice (lo:=0) (hi:=m) (by omega) (by simp [lv];omega)
     have hwe:w = .os d 1 0 m:=by
      simp only [pSlice] at hw1
      split at hw1
      ·simp at hw1;rw [←hw1]
      ·cases hw1
     rw [List.drop_zero,←List.map_take,hwe] at hw2
     exact hw2
    have uv:U8s (vs7.take m):=(u8l (by decide):U8s vs7).take m
    have lt:(vs7.take m).length≤9:=by rw [List.length_take];omega
    generalize vs7.take m=V at hv uv lt
    refine AllocQ.i0 fun a ha => ?_
    simp only [↓vcPre,↓z0,↓reduceIte,vcPost,vcStd,Nat.reduceEqDiff,reduceCtorEq,Nat.reduceAdd,Nat.reduceLeDiff,Int.reduceLT,Int.reduceLE,↓u_setN]
    have sa:=Store.sub_set U a (.arr 1 [[.int .u8 f],[.int .u8 (k:Int)],[.int .u8 (m:Int)]]) ha
    refine Own.appM (bytes:=1) (τ:=U) sa (Own.new (L:=[[.int .u8 f],[.int .u8 (k:Int)],[.int .u8 (m:Int)]]) ha) (hv.1 _ sa) (by simp;omega) fun y s hs hy => ?_
    have hy1:Own 1 U ((f::(k:Int)::(m:Int)::V).map cB) y s:=by simpa [cB] using hy
    have nxt:∀ s',Store.sub T s' → @NextQ [(1,.int .i64 (k:Int)),(3,.int .u8 f),(4,.int .i64 ((m+1:Nat):Int)),(19,.os q 1 0 11),(20,.int .i64 11),(21,.int .i64 (j:Int))] s' ⟨fun e' σ'=>∃ s':Nat,e'=[(1,.int .i64 (k:Int)),(3,.int .u8 f),(4,.int .i64 (s':Int)),(19,.os q 1 0 11),(20,.int .i64 11),(21,.int .i64 (j:Int))]∧Store.sub T σ'∧10 - s'<10 - m∧s'≤9⟩:=fun s' h=>NextQ.to (S:=Nat) (env:=fun m=>[(1,.int .i64 (k:Int)),(3,.int .u8 f),(4,.int .i64 (m:Int)),(19,.os q 1 0 11),(20,.int .i64 11),(21,.int .i64 (j:Int))]) (st:=fun _=>T) (m:=fun m=>10 - m) (ok:=fun m=>m≤9) (s:=m) (m+1) rfl h (by omega) (by omega)
    have u1:U8s (f::(k:Int)::(m:Int)::V):=by
     intro z hz
     simp only [List.mem_cons] at hz
     rcases hz with rfl | rfl | rfl | hz
     ·omega
     ·omega
     ·omega
     ·exact uv z hz
    have u2:U8s (f::(k:Int)::0::(m:Int)::V):=by
     intro z hz
     simp only [List.mem_cons] at hz
     rcases hz with rfl | rfl | rfl | rfl | hz
     ·omega
     ·omega
     ·omega
     ·omega
     ·exact uv z hz
    refine ⟨fun h1 => ?_,fun h1 => ?_⟩
    ·simp only [e8,em8,wz,e2,↓vcPre,↓z0,↓reduceIte,vcPost,vcStd,Nat.reduceEqDiff,reduceCtorEq,Nat.reduceAdd,Nat.reduceLeDiff,Int.reduceLT,Int.reduceLE,↓u_setN]
     refine AllocQ.i0 fun a2 ha2 => ?_
     simp only [↓vcPre,↓z0,↓reduceIte,vcPost,vcStd,Nat.reduceEqDiff,reduceCtorEq,Nat.reduceAdd,Nat.reduceLeDiff,Int.reduceLT,Int.reduceLE,↓u_setN]
     have sa2:=Store.sub_set s a2 (.arr 1 [[.int .u8 f],[.int .u8 (k:Int)],[.int .u8 0],[.int .u8 (m:Int)]]) ha2
     refine Own.appM (bytes:=1) (τ:=s) sa2 (Own.new (L:=[[.int .u8 f],[.int .u8 (k:Int)],[.int .u8 0],[.int .u8 (m:Int)]]) ha2) (hv.1 _ (Store.sub_trans hs sa2)) (by simp;omega) fun y2 s2 hs2 hy2 => ?_
     have hy3:Own 1 s ((f::(k:Int)::0::(m:Int)::V).map cB) y2 s2:=by simpa [cB] using hy2
     refine z2s (T:=T) (b:=true) (v5 := .nils) (Store.sub_trans sd (Store.sub_trans hs hs2)) (hy3.weak (Store.sub_trans sd hs)) (by simp;omega) (by simp) u2 _ (.inl rfl) fun s' h => ?_
     simp only [em,↓vcPre,↓z0,↓reduceIte,vcPost,vcStd,Nat.reduceEqDiff,reduceCtorEq,Nat.reduceAdd,Nat.reduceLeDiff,Int.reduceLT,Int.reduceLE,↓u_setN]
     exact nxt s' h
    ·refine z2s (T:=T) (Store.sub_trans sd hs) (hy1.weak sd) (by simp;omega) (by simp) u1 _ (.inr rfl) fun s' h => ?_
     simp only [em,↓vcPre,↓z0,↓reduceIte,vcPost,vcStd,Nat.reduceEqDiff,reduceCtorEq,Nat.reduceAdd,Nat.reduceLeDiff,Int.reduceLT,Int.reduceLE,↓u_setN]
     exact nxt s' h
   ·rw [ej]
    exact NextQ.to (j+1) rfl (Store.sub_refl _) (by omega) (by omega)
  ·rw [ek]
   exact NextQ.to (k+1) rfl sT (by omega) (by omega)
 ·exact z78 _ fun t' ht'=>⟨rfl,ht'⟩
end
end Go.Am
namespace Go.Am
open Go.Proofs
theorem zeo:Pur Tryz.prog 8 [] (.bool true):=z30
end Go.Am
