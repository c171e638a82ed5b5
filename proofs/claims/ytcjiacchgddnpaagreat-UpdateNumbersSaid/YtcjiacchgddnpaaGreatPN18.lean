/- A part of the proof: a logic for calls over plain values, and the functions that the law reaches, each walked once. -/
import Derived.Test.YtcjiacchgddnpaaGreatPN17
set_option linter.unusedVariables false
set_option linter.unusedSimpArgs false
set_option linter.unusedSectionVars false
namespace Go.Am
open Go.Proofs Go.Sort
theorem zga (p:Int×Int) (h:rightF p.1 p.2=true):Pur Tryz.prog 153 [.agg (pxC p)] (.int .i64 (1+(szN p.2:Int))):=by
 refine zo Tst.F153 (by simp [Tst.F153,Fn.mkX]) fun σ => ?_
 simp only [Tst.F153,Fn.mkX,Tst.b153,pxC]
 simp only [↓vcPre,↓z0,↓reduceIte,vcPost,vcStd,Nat.reduceEqDiff,reduceCtorEq,Nat.reduceAdd,Nat.reduceLeDiff,Int.reduceLT,Int.reduceLE,↓u_setN]
 refine AllocQ.i0 fun i hi => ?_
 simp only [↓vcPre,↓z0,↓reduceIte,vcPost,vcStd,Nat.reduceEqDiff,reduceCtorEq,Nat.reduceAdd,Nat.reduceLeDiff,Int.reduceLT,Int.reduceLE,↓u_setN]
 refine (z7y p.1 p.2).Q ?_
 rw [h]
 obtain ⟨g1,g2⟩:=wc h
 have w1:IntKind.i64.wrap (p.2+8)=p.2+8:=zb (by unfold I64;omega)
 have w2:IntKind.i64.wrap (p.2+8 - 1)=p.2+7:=by rw [zb (by unfold I64;omega)];omega
 have w3:IntKind.i64.wrap ((p.2+7).tdiv 8)=(szN p.2:Int):=by
  rw [Int.tdiv_eq_ediv_of_nonneg (by omega),zb (by unfold I64;omega)]
  unfold szN;omega
 have:=u5 g1 g2
 have w4:IntKind.i64.wrap (1+(szN p.2:Int))=1+(szN p.2:Int):=zb (by unfold I64;omega)
 simp only [w1,w2,w3,w4,↓vcPre,↓z0,↓reduceIte,vcPost,vcStd,Nat.reduceEqDiff,reduceCtorEq,Nat.reduceAdd,Nat.reduceLeDiff,Int.reduceLT,Int.reduceLE,↓u_setN]
 exact ⟨by decide,Store.sub_set _ _ _ hi⟩
theorem z6f (l:List (Int×Int)) (k:Nat) (h:k<l.length):encN (l.take (k+1))=encN (l.take k)++pxB l[k]:=by
 unfold encN
 rw [List.take_add_one,List.getElem?_eq_getElem h,List.flatMap_append]
 simp only [Option.toList_some,List.flatMap_cons,List.flatMap_nil,List.append_nil]
theorem ze7 (a:Int) (j:Nat) (hj:j<4):(b4 a).take (j+1)=(b4 a).take j++[shrInt .u32 a (32 - 8*((j:Int)+1)) % 256]:=by
 have f1:a.fdiv 1=a:=by rw [Int.fdiv_eq_ediv_of_nonneg _ (by omega)];omega
 rcases (show j=0∨j=1∨j=2∨j=3 by omega) with rfl | rfl | rfl | rfl
 ·simp [b4,shrInt,IntKind.bits,z0z]
 ·simp [b4,shrInt,IntKind.bits,z6g]
 ·simp [b4,shrInt,IntKind.bits,z5b]
 ·simp [b4,shrInt,IntKind.bits,f1]
theorem zgk (n:Int):IntKind.i64.wrap n % 256=n % 256:=by
 simp [IntKind.wrap,IntKind.bits,IntKind.signed]
 split <;> omega
set_option maxHeartbeats 1000000 in
theorem zbv (l:List (Int×Int)) (hl:l.length≤100000) (hr:Rights l):Pur Tryz.prog 122 [.sl 2 (l.map pxC)] (.tup [.sl 1 ((encN l).map cB),.int .i64 0]):=by
 intro σ
 refine ze Tst.F122 (by simp [Tst.F122,Fn.mkX]) ?_
 simp only [Tst.F122,Fn.mkX,Tst.b122]
 simp only [↓vcPre,↓z0,↓reduceIte,vcPost,vcStd,Nat.reduceEqDiff,reduceCtorEq,Nat.reduceAdd,Nat.reduceLeDiff,Int.reduceLT,Int.reduceLE,↓u_setN]
 refine (s62 σ).Q ?_
 rintro r s ⟨id,rfl,hW⟩
 simp only [↓vcPre,↓z0,↓reduceIte,vcPost,vcStd,Nat.reduceEqDiff,reduceCtorEq,Nat.reduceAdd,Nat.reduceLeDiff,Int.reduceLT,Int.reduceLE,↓u_setN]
 refine LoopQ.inv (S:=Nat×Store) (fun q=>[(4,.ptr id 0),(9,.sl 2 (l.map pxC)),(10,.int .i64 (l.length:Int)),(11,.int .i64 (q.1:Int))]) (fun q=>q.2) (fun q=>q.1≤l.length∧WI σ id (encN (l.take q.1)) q.2) (fun q=>l.length+1 - q.1) (0,s) rfl (Store.sub_refl _) ⟨by simp only;omega,by simpa [encN] using hW⟩ ?_
 rintro ⟨k,s⟩ ⟨hk,hW⟩
 simp only at hk hW
 simp only [↓vcPre,↓z0,↓reduceIte,vcPost,vcStd,Nat.reduceEqDiff,reduceCtorEq,Nat.reduceAdd,Nat.reduceLeDiff,Int.reduceLT,Int.reduceLE,↓u_setN]
 have hlen:=we (l.take k) (fun p hp=>hr p (List.mem_of_mem_take hp))
 have hlk:(l.take k).length≤100000:=by rw [List.length_take];omega
 refine ⟨fun c1 => ?_,fun c1 => ?_⟩
 ·have ek:IntKind.i64.wrap ((k:Int)+1)=((k+1:Nat):Int):=by rw [zb (by unfold I64;omega)];omega
  have hp:=hr _ (List.getElem_mem c1)
  obtain ⟨g1,g2⟩:=wc hp
  have hsz:=u5 g1 g2
  refine ⟨c1,by simp [pxC],?_⟩
  refine AllocQ.i0 fun i hi => ?_
  simp only [pxC,Store.set_set,↓vcPre,↓z0,↓reduceIte,vcPost,vcStd,Nat.reduceEqDiff,reduceCtorEq,Nat.reduceAdd,Nat.reduceLeDiff,Int.reduceLT,Int.reduceLE,↓u_setN]
  have hT:=hW.with (b:=i) (o := .box [.int .u32 l[k].1,.int .i64 l[k].2]) hi
  have hτi:σ i=none:=zj hW.2.1 hi
  have hTi:(σ.set i (.box [.int .u32 l[k].1,.int .i64 l[k].2])) i=some (.box [.int .u32 l[k].1,.int .i64 l[k].2]):=Store.set_same _ _ _
  have hσT:Store.sub σ (σ.set i (.box [.int .u32 l[k].1,.int .i64 l[k].2])):=Store.sub_set _ _ _ hτi
  generalize σ.set i (.box [.int .u32 l[k].1,.int .i64 l[k].2])=σ' at hT hTi hσT
  generalize s.set i (.box [.int .u32 l[k].1,.int .i64 l[k].2])=T at hT ⊢
  refine (z7y _ _).Q ?_
  rw [hp]
  simp only [hT.2.1 _ _ hTi,↓vcPre,↓z0,↓reduceIte,vcPost,vcStd,Nat.reduceEqDiff,reduceCtorEq,Nat.reduceAdd,Nat.reduceLeDiff,Int.reduceLT,Int.reduceLE,↓u_setN]
  refine (qa hT (by omega) _).Q ?_
  rintro r s1 ⟨rfl,h1⟩
  simp only [h1.2.1 _ _ hTi,↓vcPre,↓z0,↓reduceIte,vcPost,vcStd,Nat.reduceEqDiff,reduceCtorEq,Nat.reduceAdd,Nat.reduceLeDiff,Int.reduceLT,Int.reduceLE,↓u_setN]
  have hcs:Pur Tryz.prog 153 [.agg [.int .u32 l[k].1,.int .i64 l[k].2]] (.int .i64 (1+(szN l[k].2:Int))):=zga l[k] hp
  refine hcs.Q ?_
  have ws:IntKind.i64.wrap (1+(szN l[k].2:Int) - 1)=(szN l[k].2:Int):=by rw [zb (by unfold I64;omega)];omega
  simp only [ws,↓vcPre,↓z0,↓reduceIte,vcPost,vcStd,Nat.reduceEqDiff,reduceCtorEq,Nat.reduceAdd,Nat.reduceLeDiff,Int.reduceLT,Int.reduceLE,↓u_setN]
  have e0:beN 1 (IntKind.u64.wrap l[k].2)=[l[k].2]:=by rw [be1];congr 1;omega
  rw [e0] at h1
  refine LoopQ.inv (S:=Nat×Store) (fun q=>[(4,.ptr id 0),(6,.ptr i 0),(9,.sl 2 (l.map pxC)),(10,.int .i64 (l.length:Int)),(11,.int .i64 (k:Int)),(24,.int .i64 (szN l[k].2:Int)),(25,.int .i64 (q.1:Int))]) (fun q=>q.2) (fun q=>q.1≤szN l[k].2∧WI σ' id (encN (l.take k)++[l[k].2]++(b4 l[k].1).take q.1) q.2) (fun q=>szN l[k].2+1 - q.1) (0,s1) rfl (Store.sub_refl _) ⟨by simp only;omega,by simpa using h1⟩ ?_
  rintro ⟨j,s3⟩ ⟨hj,h3⟩
  simp only at hj h3
  simp only [↓vcPre,↓z0,↓reduceIte,vcPost,vcStd,Nat.reduceEqDiff,reduceCtorEq,Nat.reduceAdd,Nat.reduceLeDiff,Int.reduceLT,Int.reduceLE,↓u_setN]
  refine ⟨fun d1 => ?_,fun d1 => ?_⟩
  ·have ej:IntKind.i64.wrap ((j:Int)+1)=((j+1:Nat):Int):=by rw [zb (by unfold I64;omega)];omega
   have em:IntKind.i64.wrap (8*((j+1:Nat):Int))=8*((j:Int)+1):=by rw [zb (by unfold I64;omega)];omega
   have es:IntKind.i64.wrap (32 - 8*((j:Int)+1))=32 - 8*((j:Int)+1):=by rw [zb (by unfold I64;omega)]
   simp only [h3.2.1 _ _ hTi,ej,em,es,↓vcPre,↓z0,↓reduceIte,vcPost,vcStd,Nat.reduceEqDiff,reduceCtorEq,Nat.reduceAdd,Nat.reduceLeDiff,Int.reduceLT,Int.reduceLE,↓u_setN]
   refine ⟨by omega,?_⟩
   refine (qa h3 (by simp;omega) _).Q ?_
   rintro r s4 ⟨rfl,h4⟩
   simp only [↓vcPre,↓z0,↓reduceIte,vcPost,vcStd,Nat.reduceEqDiff,reduceCtorEq,Nat.reduceAdd,Nat.reduceLeDiff,Int.reduceLT,Int.reduceLE,↓u_setN]
   rw [ej]
   refine NextQ.to (j+1,s4) rfl (Store.sub_refl _) (by simp only;omega) ⟨by simp only;omega,?_⟩
   simp only
   rw [ze7 _ _ (by omega),←List.append_assoc]
   rw [be1,zgk] at h4
   exact h4
  ·have e:j=szN l[k].2:=by omega
   subst e
   rw [ek]
   refine NextQ.to (k+1,s3) rfl (Store.sub_refl _) (by simp only;omega) ⟨by simp only;omega,?_⟩
   simp only
   rw [z6f _ _ c1]
   simp only [pxB,List.append_assoc,List.cons_append,List.nil_append] at h3 ⊢
   exact h3.weak hσT
 ·have e:l.take k=l:=List.take_of_length_le (by omega)
  rw [e] at hW hlen
  refine (s66 hW (by omega)).Q ?_
  rintro r s' ⟨rfl,rfl⟩
  simp only [↓vcPre,↓z0,↓reduceIte,vcPost,vcStd,Nat.reduceEqDiff,reduceCtorEq,Nat.reduceAdd,Nat.reduceLeDiff,Int.reduceLT,Int.reduceLE,↓u_setN]
  exact EndQ.to _ _ rfl hW.2.1 ⟨rfl,rfl⟩
end Go.Am
namespace Go.Am
open Go.Proofs Go.Sort
theorem zgc (p:Int×Int):Pur Tryz.prog 155 [.agg (pxC p)] (.bool (!rightF p.1 p.2)):=by
 refine zo Tst.F155 (by simp [Tst.F155,Fn.mkX]) fun σ => ?_
 simp only [Tst.F155,Fn.mkX,Tst.b155,pxC]
 simp only [↓vcPre,↓z0,↓reduceIte,vcPost,vcStd,Nat.reduceEqDiff,reduceCtorEq,Nat.reduceAdd,Nat.reduceLeDiff,Int.reduceLT,Int.reduceLE,↓u_setN]
 refine AllocQ.i0 fun i hi => ?_
 simp only [↓vcPre,↓z0,↓reduceIte,vcPost,vcStd,Nat.reduceEqDiff,reduceCtorEq,Nat.reduceAdd,Nat.reduceLeDiff,Int.reduceLT,Int.reduceLE,↓u_setN]
 refine (z7y p.1 p.2).Q ?_
 simp only [↓vcPre,↓z0,↓reduceIte,vcPost,vcStd,Nat.reduceEqDiff,reduceCtorEq,Nat.reduceAdd,Nat.reduceLeDiff,Int.reduceLT,Int.reduceLE,↓u_setN]
 exact Store.sub_set _ _ _ hi
theorem zgu (l:List (Int×Int)) (hl:l.length≤1000000) (σ:Store):ACalls Tryz.prog 163 [.sl 2 (l.map pxC),.fn 155 []] σ (fun r s=>s=σ∧∃ k:Int,r = .int .i64 k∧decide (0≤k) = !(l.all fun p=>rightF p.1 p.2)):=by
 refine ze Tst.F163 (by simp [Tst.F163,Fn.mkX]) ?_
 simp only [Tst.F163,Fn.mkX,Tst.b163]
 simp only [↓vcPre,↓z0,↓reduceIte,vcPost,vcStd,Nat.reduceEqDiff,reduceCtorEq,Nat.reduceAdd,Nat.reduceLeDiff,Int.reduceLT,Int.reduceLE,↓u_setN]
 refine LoopQ.inv (S:=Nat) (fun k=>[(0,.sl 2 (l.map pxC)),(1,.fn 155 []),(7,.int .i64 (l.length:Int)),(8,.int .i64 (k:Int))]) (fun _=>σ) (fun k=>k≤l.length∧(l.take k).all (fun p=>rightF p.1 p.2)=true) (fun k=>l.length+1 - k) 0 rfl (Store.sub_refl _) ⟨by omega,by simp⟩ ?_
 rintro k ⟨hk,hr⟩
 simp only [↓vcPre,↓z0,↓reduceIte,vcPost,vcStd,Nat.reduceEqDiff,reduceCtorEq,Nat.reduceAdd,Nat.reduceLeDiff,Int.reduceLT,Int.reduceLE,↓u_setN]
 refine ⟨fun c1 => ?_,fun c1 => ?_⟩
 ·have ek:IntKind.i64.wrap ((k:Int)+1)=((k+1:Nat):Int):=by rw [zb (by unfold I64;omega)];omega
  refine ⟨c1,by simp [pxC],?_⟩
  have hc:=zgc l[k]
  simp only [pxC] at hc
  simp only [pxC,↓vcPre,↓z0,↓reduceIte,vcPost,vcStd,Nat.reduceEqDiff,reduceCtorEq,Nat.reduceAdd,Nat.reduceLeDiff,Int.reduceLT,Int.reduceLE,↓u_setN]
  refine hc.Q ?_
  cases g:rightF l[k].1 l[k].2
  ·simp only [↓vcPre,↓z0,↓reduceIte,vcPost,vcStd,Nat.reduceEqDiff,reduceCtorEq,Nat.reduceAdd,Nat.reduceLeDiff,Int.reduceLT,Int.reduceLE,↓u_setN]
   refine EndQ.to _ _ rfl (Store.sub_refl _) ⟨rfl,_,rfl,?_⟩
   rw [z1m c1 g];simp
  ·simp only [↓vcPre,↓z0,↓reduceIte,vcPost,vcStd,Nat.reduceEqDiff,reduceCtorEq,Nat.reduceAdd,Nat.reduceLeDiff,Int.reduceLT,Int.reduceLE,↓u_setN]
   rw [ek]
   exact NextQ.to (k+1) rfl (Store.sub_refl _) (by omega) ⟨by omega,vd c1 hr g⟩
 ·have e:l.take k=l:=List.take_of_length_le (by omega)
  rw [e] at hr
  exact EndQ.to _ _ rfl (Store.sub_refl _) ⟨rfl,_,rfl,by rw [hr];rfl⟩
theorem zgb (l:List (Int×Int)) (hl:l.length≤1000000):Pur Tryz.prog 154 [.sl 2 (l.map pxC),.fn 155 []] (.bool (!(l.all fun p=>rightF p.1 p.2))):=by
 refine zo Tst.F154 (by simp [Tst.F154,Fn.mkX]) fun σ => ?_
 simp only [Tst.F154,Fn.mkX,Tst.b154]
 simp only [↓vcPre,↓z0,↓reduceIte,vcPost,vcStd,Nat.reduceEqDiff,reduceCtorEq,Nat.reduceAdd,Nat.reduceLeDiff,Int.reduceLT,Int.reduceLE,↓u_setN]
 refine (zgu l hl σ).Q ?_
 rintro r s ⟨rfl,k,rfl,hk⟩
 simp only [↓vcPre,↓z0,↓reduceIte,vcPost,vcStd,Nat.reduceEqDiff,reduceCtorEq,Nat.reduceAdd,Nat.reduceLeDiff,Int.reduceLT,Int.reduceLE,↓u_setN]
 rw [hk]
theorem zbw (l:List (Int×Int)) (hl:l.length≤1000000):Pur Tryz.prog 124 [.sl 2 (l.map pxC)] (.bool (l.all fun p=>rightF p.1 p.2)):=by
 refine zo Tst.F124 (by simp [Tst.F124,Fn.mkX]) fun σ => ?_
 simp only [Tst.F124,Fn.mkX,Tst.b124]
 simp only [↓vcPre,↓z0,↓reduceIte,vcPost,vcStd,Nat.reduceEqDiff,reduceCtorEq,Nat.reduceAdd,Nat.reduceLeDiff,Int.reduceLT,Int.reduceLE,↓u_setN]
 refine (zgb l hl).Q ?_
 simp only [↓vcPre,↓z0,↓reduceIte,vcPost,vcStd,Nat.reduceEqDiff,reduceCtorEq,Nat.reduceAdd,Nat.reduceLeDiff,Int.reduceLT,Int.reduceLE,↓u_setN]
theorem zbn (a:At):(decide (canonA a=canonA zeroAt) && (decide (a.med=0) && decide (a.prf=0)))=zAt a:=by
 unfold zAt
 rw [Bool.eq_iff_iff]
 simp only [Bool.and_eq_true,decide_eq_true_eq]
 have e:canonA zeroAt=⟨0,[],0,false,0,false,0,false,canonC []⟩:=rfl
 rw [e]
 constructor
 ·rintro ⟨h,hm,hp⟩
  simp only [canonA,At.mk.injEq] at h
  obtain ⟨h1,h2,h3,h4,h5,h6,h7,h8,h9⟩:=h
  have h10:a.cms=[]:=by
   cases hc:a.cms with
   | nil=>rfl
   | cons x t =>
     have:x ∈ canonC a.cms:=canonC_mem.2 (by rw [hc];simp)
     rw [h9,canonC_mem] at this;cases this
  exact ⟨h1,by rw [h2];rfl,h3,h4,hm,h6,hp,h8,by rw [h10];rfl⟩
 ·rintro ⟨h1,h2,h3,h4,h5,h6,h7,h8,h9⟩
  refine ⟨?_,h5,h7⟩
  simp only [canonA,At.mk.injEq]
  exact ⟨h1,List.length_eq_zero_iff.1 h2,h3,h4,by rw [h4];rfl,h6,by rw [h6];rfl,h8,by rw [List.length_eq_zero_iff.1 h9]⟩
set_option maxHeartbeats 1000000 in
theorem c78 (u:Up) (hu:u.a.ok) (lw:u.w.length≤1000000) (ln:u.n.length≤1000000):Pur Tryz.prog 78 [.agg u.c] (.bool (rightU u)):=by
 refine zo Tst.F78 (by simp [Tst.F78,Fn.mkX]) fun σ => ?_
 simp only [Tst.F78,Fn.mkX,Tst.b78,wi]
 have f0:List.take 1 u.c=[.sl 2 (u.w.map pxC)]:=rfl
 have f1:List.take 1 (List.drop 1 u.c)=[.bool u.has]:=rfl
 have f2:List.take 9 (List.drop 2 u.c)=u.a.c:=rfl
 have f11:List.take 1 (List.drop 11 u.c)=[.sl 2 (u.n.map pxC)]:=rfl
 have spZ:splice 0 u.a.c zC=some u.a.c:=rfl
 have m4:List.take 1 (List.drop 4 u.a.c)=[.int .u32 u.a.med]:=rfl
 have m6:List.take 1 (List.drop 6 u.a.c)=[.int .u32 u.a.prf]:=rfl
 have e9:u.a.c.length=9:=rfl
 simp only [zw,↓vcPre,↓z0,↓reduceIte,vcPost,vcStd,Nat.reduceEqDiff,reduceCtorEq,Nat.reduceAdd,Nat.reduceLeDiff,Int.reduceLT,Int.reduceLE,↓u_setN]
 refine AllocQ.i0 fun p hp => ?_
 have hP:=Store.sub_set σ p (.box u.c) hp
 have P1:(σ.set p (.box u.c)) p=some (.box u.c):=Store.set_same _ _ _
 generalize σ.set p (.box u.c)=P at hP P1 ⊢
 simp only [P1,f0,f1,f11,zw,↓vcPre,↓z0,↓reduceIte,vcPost,vcStd,Nat.reduceEqDiff,reduceCtorEq,Nat.reduceAdd,Nat.reduceLeDiff,Int.reduceLT,Int.reduceLE,↓u_setN]
 refine (zbw u.w lw).Q ?_
 unfold rightU
 cases hw:(u.w.all fun p=>rightF p.1 p.2)
 ·simp only [↓vcPre,↓z0,↓reduceIte,vcPost,vcStd,Nat.reduceEqDiff,reduceCtorEq,Nat.reduceAdd,Nat.reduceLeDiff,Int.reduceLT,Int.reduceLE,↓u_setN]
  exact ⟨rfl,hP⟩
 simp only [P1,f0,f1,f11,zw,↓vcPre,↓z0,↓reduceIte,vcPost,vcStd,Nat.reduceEqDiff,reduceCtorEq,Nat.reduceAdd,Nat.reduceLeDiff,Int.reduceLT,Int.reduceLE,↓u_setN]
 refine (zbw u.n ln).Q ?_
 cases hn:(u.n.all fun p=>rightF p.1 p.2)
 ·simp only [↓vcPre,↓z0,↓reduceIte,vcPost,vcStd,Nat.reduceEqDiff,reduceCtorEq,Nat.reduceAdd,Nat.reduceLeDiff,Int.reduceLT,Int.reduceLE,↓u_setN]
  exact ⟨rfl,hP⟩
 simp only [P1,f0,f1,f11,zw,↓vcPre,↓z0,↓reduceIte,vcPost,vcStd,Nat.reduceEqDiff,reduceCtorEq,Nat.reduceAdd,Nat.reduceLeDiff,Int.reduceLT,Int.reduceLE,↓u_setN]
 have bff:(false != false)=false:=rfl
 have bft:(false != true)=true:=rfl
 have btf:(true != false)=true:=rfl
 have btt:(true != true)=false:=rfl
 cases hh:u.has
 ·by_cases hl:0<u.n.length
  ·have hl':(0:Int)<(u.n.length:Int):=by omega
   rw [decide_eq_true hl',decide_eq_true hl]
   simp only [bff,bft,btf,btt,↓vcPre,↓z0,↓reduceIte,vcPost,vcStd,Nat.reduceEqDiff,reduceCtorEq,Nat.reduceAdd,Nat.reduceLeDiff,Int.reduceLT,Int.reduceLE,↓u_setN]
   exact ⟨rfl,hP⟩
  ·have hl':¬ (0:Int)<(u.n.length:Int):=by omega
   rw [decide_eq_false hl',decide_eq_false hl]
   simp only [bff,bft,btf,btt,↓vcPre,↓z0,↓reduceIte,vcPost,vcStd,Nat.reduceEqDiff,reduceCtorEq,Nat.reduceAdd,Nat.reduceLeDiff,Int.reduceLT,Int.reduceLE,↓u_setN]
   refine AllocQ.i0 fun q hq => ?_
   simp only [P1,f2,spZ,zw,e9,wi,↓vcPre,↓z0,↓reduceIte,vcPost,vcStd,Nat.reduceEqDiff,reduceCtorEq,Nat.reduceAdd,Nat.reduceLeDiff,Int.reduceLT,Int.reduceLE,↓u_setN]
   have hQ:Store.sub σ ((P.set q (.box zC)).set q (.box u.a.c)):=z8 (Store.sub_trans hP (Store.sub_set P q _ hq)) (zj hP hq)
   have Q1:((P.set q (.box zC)).set q (.box u.a.c)) q=some (.box u.a.c):=Store.set_same _ _ _
   generalize (P.set q (.box zC)).set q (.box u.a.c)=Q at hQ Q1 ⊢
   have bz:pv (.build zC []) []=some (.agg zC):=rfl
   have t9:List.take 9 u.a.c=u.a.c:=rfl
   simp only [Q1,bz,t9,e9,Nat.le_refl,↓vcPre,↓z0,↓reduceIte,vcPost,vcStd,Nat.reduceEqDiff,reduceCtorEq,Nat.reduceAdd,Nat.reduceLeDiff,Int.reduceLT,Int.reduceLE,↓u_setN]
   have hs:=zcd u.a zeroAt hu yq
   have hz:=zbn u.a
   refine (z9g zC_imp (hs Q)).Q ?_
   rintro r s ⟨rfl,rfl⟩
   by_cases h1:canonA u.a=canonA zeroAt
   ·rw [decide_eq_true h1] at hz ⊢
    simp only [Q1,m4,m6,e9,↓vcPre,↓z0,↓reduceIte,vcPost,vcStd,Nat.reduceEqDiff,reduceCtorEq,Nat.reduceAdd,Nat.reduceLeDiff,Int.reduceLT,Int.reduceLE,↓u_setN]
    refine ⟨fun h2=>⟨?_,hQ⟩,fun h2=>⟨?_,hQ⟩⟩
    ·rw [decide_eq_true h2] at hz
     rw [←hz];simp
    ·rw [decide_eq_false h2] at hz
     rw [←hz];simp
   ·rw [decide_eq_false h1] at hz ⊢
    simp only [↓vcPre,↓z0,↓reduceIte,vcPost,vcStd,Nat.reduceEqDiff,reduceCtorEq,Nat.reduceAdd,Nat.reduceLeDiff,Int.reduceLT,Int.reduceLE,↓u_setN]
    refine ⟨?_,hQ⟩
    rw [←hz];simp
 ·by_cases hl:0<u.n.length
  ·have hl':(0:Int)<(u.n.length:Int):=by omega
   rw [decide_eq_true hl',decide_eq_true hl]
   simp only [P1,f2,zw,bff,bft,btf,btt,↓vcPre,↓z0,↓reduceIte,vcPost,vcStd,Nat.reduceEqDiff,reduceCtorEq,Nat.reduceAdd,Nat.reduceLeDiff,Int.reduceLT,Int.reduceLE,↓u_setN]
   refine (c61 u.a hu).Q ?_
   simp only [↓vcPre,↓z0,↓reduceIte,vcPost,vcStd,Nat.reduceEqDiff,reduceCtorEq,Nat.reduceAdd,Nat.reduceLeDiff,Int.reduceLT,Int.reduceLE,↓u_setN]
   exact ⟨rfl,hP⟩
  ·have hl':¬ (0:Int)<(u.n.length:Int):=by omega
   rw [decide_eq_false hl',decide_eq_false hl]
   simp only [bff,bft,btf,btt,↓vcPre,↓z0,↓reduceIte,vcPost,vcStd,Nat.reduceEqDiff,reduceCtorEq,Nat.reduceAdd,Nat.reduceLeDiff,Int.reduceLT,Int.reduceLE,↓u_setN]
   exact ⟨rfl,hP⟩
end Go.Am
namespace Go.Am.Ts8
open Go.Proofs Go.Am.B
def t77_33:BC:=z [g 33 62 [],m 9 33] [4,6,8,9] (z [m 34 9,m 35 4,u 36 .len 35,g 37 102 [.t 34,.t 36]] [4,6,8,9] (z [m 38 9,m 39 4,g 40 103 [.t 38,.t 39]] [6,8,9] (z [m 41 9,m 42 8,u 43 .len 42,g 44 102 [.t 41,.t 43]] [6,8,9] (z [m 45 9,m 46 8,g 47 103 [.t 45,.t 46]] [6,9] (z [m 48 9,m 49 6,g 50 103 [.t 48,.t 49]] [9] (.seq (z [m 51 9,g 52 123 [.t 51],c 53 .gtr 52 4077] [9,53] (.cond (.t 53) (z [k 2 .nils,j 3 3] [2,3] .ret) .skip)) (z [m 54 9,g 55 66 [.t 54],m 2 55,j 3 0] [2,3] .ret)))))))
def b77:BC:=z [⟨some 1,none,.alloc (.box),[.t 0]⟩,k 2 .nils,j 3 0] [1] (.seq (z [⟨some 10,none,.load (.ld 12 true),[.t 1]⟩,g 11 78 [.t 10],u 12 .not 11] [1,12] (.cond (.t 12) (z [k 2 .nils,j 3 12] [2,3] .ret) .skip)) (z [f 14 0 1,l 15 1 14,g 16 122 [.t 15],m 13 16,e 17 0 13,e 18 1 13,m 4 17,m 5 18] [1,4] (z [f 20 11 1,l 21 1 20,g 22 122 [.t 21],m 19 22,e 23 0 19,e 24 1 19,m 6 23,m 7 24] [1,4,6] (z [k 8 .nils] [1,4,6,8] (.seq (z [f 25 1 1,l 26 1 25] [1,4,6,8,26] (.cond (.t 26) (.ops [f 28 2 1,⟨some 29,none,.load (.ld 9 true),[.t 28]⟩,g 30 27 [.t 29],m 27 30,e 31 0 27,e 32 1 27,m 8 31] [4,6,8]) .skip)) t77_33)))))
def F77:Fn Tryz.prog 77:=Fn.mkX false b77 [.t 2,.t 3] 56 Tryz.f77 _ Tryz.func77 (by decide) rfl Tryz.ntmps77 (by kernel_rfl) (by kernel_rfl)
end Go.Am.Ts8
namespace Go.Am
open Go.Proofs Go.Sort
theorem zgs {τ s:Store} {id:Nat} {L:List Int} (h:WI τ id L s):ACalls Tryz.prog 123 [.ptr id 0] s (fun r s'=>s'=s∧r = .int .i64 (L.length:Int)):=by
 obtain ⟨h1,h2,v,h3,h4⟩:=h
 refine ze Tst.F123 (by simp [Tst.F123,Fn.mkX]) ?_
 simp only [Tst.F123,Fn.mkX,Tst.b123]
 have hv:pv .len [v]=some (.int .i64 (L.length:Int)):=by rw [(Rd.own h4).2];simp
 simp only [h3,hv,↓vcPre,↓z0,↓reduceIte,vcPost,vcStd,Nat.reduceEqDiff,reduceCtorEq,Nat.reduceAdd,Nat.reduceLeDiff,Int.reduceLT,Int.reduceLE,↓u_setN]
 exact EndQ.to _ _ rfl (Store.sub_refl _) ⟨rfl,rfl⟩
theorem z76 (k:Nat):beN 2 (IntKind.u64.wrap (k:Int))=u16 k:=by rw [be2];rfl
theorem z6z {W A N:List Int} {T:Store} {av:AV} (ha:Rd 1 T (A.map cB) av) (lW:W.length≤1000000) (lA:A.length≤1000000) (lN:N.length≤1000000) (e:Env) {p:Nat} {b:Bool}
 (hE:e=[(4,.sl 1 (W.map cB)),(6,.sl 1 (N.map cB)),(8,av)]∨e=[(1,.ptr p 0),(4,.sl 1 (W.map cB)),(6,.sl 1 (N.map cB)),(8,av),(26,.bool b)]) {n rr:Env→Store→Prop} {xx:Nat→Env→Store→Prop}
 (hr1:4077<4+W.length+A.length+N.length→∀ t',Store.sub T t'→rr [(2,.nils),(3,.int .i64 3)] t') (hr2:¬ 4077<4+W.length+A.length+N.length→∀ t',Store.sub T t'→rr [(2,.sl 1 ((joinU W A N).map cB)),(3,.int .i64 0)] t') :
 bwp Tryz.prog Ts8.t77_33 e T n rr xx:=by
 simp only [Ts8.t77_33]
 have la:pv .len [av]=some (.int .i64 (A.length:Int)):=by rw [ha.2];simp
 rcases hE with rfl | rfl
 all_goals
  simp only [↓vcPre,↓z0,↓reduceIte,vcPost,vcStd,Nat.reduceEqDiff,reduceCtorEq,Nat.reduceAdd,Nat.reduceLeDiff,Int.reduceLT,Int.reduceLE,↓u_setN]
  refine (s62 T).Q ?_
  rintro r s ⟨id,rfl,h0⟩
  simp only [↓vcPre,↓z0,↓reduceIte,vcPost,vcStd,Nat.reduceEqDiff,reduceCtorEq,Nat.reduceAdd,Nat.reduceLeDiff,Int.reduceLT,Int.reduceLE,↓u_setN]
  refine (z8n h0 (by simp) _).Q ?_
  rintro r s1 ⟨rfl,h1⟩
  simp only [↓vcPre,↓z0,↓reduceIte,vcPost,vcStd,Nat.reduceEqDiff,reduceCtorEq,Nat.reduceAdd,Nat.reduceLeDiff,Int.reduceLT,Int.reduceLE,↓u_setN]
  refine (z3r h1 Rd.sl (by simp [be2]) (by omega)).Q ?_
  rintro r s2 ⟨rfl,h2⟩
  simp only [la,↓vcPre,↓z0,↓reduceIte,vcPost,vcStd,Nat.reduceEqDiff,reduceCtorEq,Nat.reduceAdd,Nat.reduceLeDiff,Int.reduceLT,Int.reduceLE,↓u_setN]
  refine (z8n h2 (by simp [be2];omega) _).Q ?_
  rintro r s3 ⟨rfl,h3⟩
  simp only [↓vcPre,↓z0,↓reduceIte,vcPost,vcStd,Nat.reduceEqDiff,reduceCtorEq,Nat.reduceAdd,Nat.reduceLeDiff,Int.reduceLT,Int.reduceLE,↓u_setN]
  refine (z3r h3 ha (by simp [be2];omega) (by omega)).Q ?_
  rintro r s4 ⟨rfl,h4⟩
  simp only [↓vcPre,↓z0,↓reduceIte,vcPost,vcStd,Nat.reduceEqDiff,reduceCtorEq,Nat.reduceAdd,Nat.reduceLeDiff,Int.reduceLT,Int.reduceLE,↓u_setN]
  refine (z3r h4 Rd.sl (by simp [be2];omega) (by omega)).Q ?_
  rintro r s5 ⟨rfl,h5⟩
  have ej:[]++beN 2 (IntKind.u64.wrap (W.length:Int))++W++beN 2 (IntKind.u64.wrap (A.length:Int))++A++N=joinU W A N:=by
   rw [z76,z76];simp [joinU]
  rw [ej] at h5
  have lj:(joinU W A N).length=4+W.length+A.length+N.length:=by simp [joinU,u16];omega
  simp only [↓vcPre,↓z0,↓reduceIte,vcPost,vcStd,Nat.reduceEqDiff,reduceCtorEq,Nat.reduceAdd,Nat.reduceLeDiff,Int.reduceLT,Int.reduceLE,↓u_setN]
  refine (zgs h5).Q ?_
  rintro r s6 ⟨rfl,rfl⟩
  rw [lj]
  simp only [↓vcPre,↓z0,↓reduceIte,vcPost,vcStd,Nat.reduceEqDiff,reduceCtorEq,Nat.reduceAdd,Nat.reduceLeDiff,Int.reduceLT,Int.reduceLE,↓u_setN]
  refine ⟨fun g => ?_,fun g => ?_⟩
  ·exact hr1 (by omega) _ h5.2.1
  ·refine (s66 h5 (by omega)).Q ?_
   rintro r s7 ⟨rfl,rfl⟩
   simp only [↓vcPre,↓z0,↓reduceIte,vcPost,vcStd,Nat.reduceEqDiff,reduceCtorEq,Nat.reduceAdd,Nat.reduceLeDiff,Int.reduceLT,Int.reduceLE,↓u_setN]
   exact hr2 (by omega) _ h5.2.1
set_option maxHeartbeats 1000000 in
theorem c77 (u:Up) (hu:u.a.ok) (lw:u.w.length≤100000) (ln:u.n.length≤100000) (he:u.has=true→(encA u.a).length≤1000000):Pur Tryz.prog 77 [.agg u.c] (.tup [.sl 1 ((encU9 u).1.map cB),.int .i64 (encU9 u).2]):=by
 intro σ
 refine ze Ts8.F77 (by simp [Ts8.F77,Fn.mkX]) ?_
 simp only [Ts8.F77,Fn.mkX,Ts8.b77]
 have f0:List.take 1 u.c=[.sl 2 (u.w.map pxC)]:=rfl
 have f1:List.take 1 (List.drop 1 u.c)=[.bool u.has]:=rfl
 have f2:List.take 9 (List.drop 2 u.c)=u.a.c:=rfl
 have f11:List.take 1 (List.drop 11 u.c)=[.sl 2 (u.n.map pxC)]:=rfl
 have t12:List.take 12 u.c=u.c:=rfl
 simp only [zw,↓vcPre,↓z0,↓reduceIte,vcPost,vcStd,Nat.reduceEqDiff,reduceCtorEq,Nat.reduceAdd,Nat.reduceLeDiff,Int.reduceLT,Int.reduceLE,↓u_setN]
 refine AllocQ.i0 fun p hp => ?_
 have hP:=Store.sub_set σ p (.box u.c) hp
 have P1:(σ.set p (.box u.c)) p=some (.box u.c):=Store.set_same _ _ _
 generalize σ.set p (.box u.c)=P at hP P1 ⊢
 simp only [P1,t12,zw,Nat.le_refl,↓vcPre,↓z0,↓reduceIte,vcPost,vcStd,Nat.reduceEqDiff,reduceCtorEq,Nat.reduceAdd,Nat.reduceLeDiff,Int.reduceLT,Int.reduceLE,↓u_setN]
 refine (c78 u hu (by omega) (by omega)).Q ?_
 cases hr:rightU u with
 | false =>
   simp only [↓vcPre,↓z0,↓reduceIte,vcPost,vcStd,Nat.reduceEqDiff,reduceCtorEq,Nat.reduceAdd,Nat.reduceLeDiff,Int.reduceLT,Int.reduceLE,↓u_setN]
   have e:encU9 u=([],12):=by unfold encU9;rw [hr];rfl
   rw [e]
   exact EndQ.twoNil _ 1 _ rfl hP ⟨rfl,rfl⟩
 | true =>
   obtain ⟨hrw,hrn⟩:=qj hr
   have e:encU9 u=if 4077<4+(encN u.w).length+(aOf u).length+(encN u.n).length then ([],3) else (joinU (encN u.w) (aOf u) (encN u.n),0):=by unfold encU9;rw [if_pos hr]
   have l1:=we u.w hrw
   have l2:=we u.n hrn
   simp only [P1,f0,zw,↓vcPre,↓z0,↓reduceIte,vcPost,vcStd,Nat.reduceEqDiff,reduceCtorEq,Nat.reduceAdd,Nat.reduceLeDiff,Int.reduceLT,Int.reduceLE,↓u_setN]
   refine (zbv u.w lw hrw).Q ?_
   simp only [P1,f11,zw,↓vcPre,↓z0,↓reduceIte,vcPost,vcStd,Nat.reduceEqDiff,reduceCtorEq,Nat.reduceAdd,Nat.reduceLeDiff,Int.reduceLT,Int.reduceLE,↓u_setN]
   refine (zbv u.n ln hrn).Q ?_
   simp only [P1,f1,zw,↓vcPre,↓z0,↓reduceIte,vcPost,vcStd,Nat.reduceEqDiff,reduceCtorEq,Nat.reduceAdd,Nat.reduceLeDiff,Int.reduceLT,Int.reduceLE,↓u_setN]
   cases hh:u.has with
   | true =>
     have hat:atRight u.a:=by
      unfold rightU at hr
      rw [hh] at hr
      simp only [Bool.and_eq_true,if_true,decide_eq_true_eq] at hr
      exact hr.2.2.2
     have ea:aOf u=encA u.a:=by unfold aOf;rw [hh];rfl
     rw [ea] at e
     have ae:=c27 u.a hu
     rw [if_pos hat,if_pos hat] at ae
     simp only [P1,f2,zw,↓vcPre,↓z0,↓reduceIte,vcPost,vcStd,Nat.reduceEqDiff,reduceCtorEq,Nat.reduceAdd,Nat.reduceLeDiff,Int.reduceLT,Int.reduceLE,↓u_setN]
     refine ae.Q ?_
     simp only [↓vcPre,↓z0,↓reduceIte,vcPost,vcStd,Nat.reduceEqDiff,reduceCtorEq,Nat.reduceAdd,Nat.reduceLeDiff,Int.reduceLT,Int.reduceLE,↓u_setN]
     refine z6z (A:=encA u.a) (p:=0) (b:=true) Rd.sl (by omega) (he hh) (by omega) _ (.inl rfl) (fun hL t' ht' => ?_) (fun hL t' ht' => ?_)
     ·rw [if_pos hL] at e
      rw [e]
      exact EndQ.twoNil _ 1 _ rfl (Store.sub_trans hP ht') ⟨rfl,rfl⟩
     ·rw [if_neg hL] at e
      rw [e]
      exact EndQ.to _ _ rfl (Store.sub_trans hP ht') ⟨rfl,rfl⟩
   | false =>
     have ea:aOf u=[]:=by unfold aOf;rw [hh];rfl
     rw [ea] at e
     simp only [↓vcPre,↓z0,↓reduceIte,vcPost,vcStd,Nat.reduceEqDiff,reduceCtorEq,Nat.reduceAdd,Nat.reduceLeDiff,Int.reduceLT,Int.reduceLE,↓u_setN]
     refine z6z (A:=[]) Rd.nils (by omega) (by simp) (by omega) _ (.inr rfl) (fun hL t' ht' => ?_) (fun hL t' ht' => ?_)
     ·rw [if_pos hL] at e
      rw [e]
      exact EndQ.twoNil _ 1 _ rfl (Store.sub_trans hP ht') ⟨rfl,rfl⟩
     ·rw [if_neg hL] at e
      rw [e]
      exact EndQ.to _ _ rfl (Store.sub_trans hP ht') ⟨rfl,rfl⟩
end Go.Am
namespace Go.Am
open Go.Proofs Go.Sort
theorem c35 (u:Up) (hu:u.a.ok) (lw:u.w.length≤100000) (ln:u.n.length≤100000) (he:u.has=true→encOk u.a∧(encA u.a).length≤1000000):Pur Tryz.prog 35 [.agg u.c] (.bool true):=by
 refine zo Tst.F35 (by simp [Tst.F35,Fn.mkX]) fun σ => ?_
 simp only [Tst.F35,Fn.mkX,Tst.b35]
 have t12:List.take 12 u.c=u.c:=rfl
 simp only [zw,↓vcPre,↓z0,↓reduceIte,vcPost,vcStd,Nat.reduceEqDiff,reduceCtorEq,Nat.reduceAdd,Nat.reduceLeDiff,Int.reduceLT,Int.reduceLE,↓u_setN]
 refine AllocQ.i0 fun p hp => ?_
 have hP:=Store.sub_set σ p (.box u.c) hp
 have P1:(σ.set p (.box u.c)) p=some (.box u.c):=Store.set_same _ _ _
 generalize σ.set p (.box u.c)=P at hP P1 ⊢
 simp only [P1,t12,zw,Nat.le_refl,↓vcPre,↓z0,↓reduceIte,vcPost,vcStd,Nat.reduceEqDiff,reduceCtorEq,Nat.reduceAdd,Nat.reduceLeDiff,Int.reduceLT,Int.reduceLE,↓u_setN]
 refine (c77 u hu lw ln (fun h=>(he h).2)).Q ?_
 simp only [P1,t12,zw,Nat.le_refl,↓vcPre,↓z0,↓reduceIte,vcPost,vcStd,Nat.reduceEqDiff,reduceCtorEq,Nat.reduceAdd,Nat.reduceLeDiff,Int.reduceLT,Int.reduceLE,↓u_setN]
 refine (s18 u hu lw ln (fun h=>⟨(he h).1,by have:=(he h).2;omega⟩) P).Q ?_
 rintro r s ⟨hs,v,rfl,hv⟩
 have S1:=hs _ _ P1
 simp only [S1,t12,zw,Nat.le_refl,↓vcPre,↓z0,↓reduceIte,vcPost,vcStd,Nat.reduceEqDiff,reduceCtorEq,Nat.reduceAdd,Nat.reduceLeDiff,Int.reduceLT,Int.reduceLE,↓u_setN]
 refine (c78 u hu (by omega) (by omega)).q' ?_
 simp only [↓vcPre,↓z0,↓reduceIte,vcPost,vcStd,Nat.reduceEqDiff,reduceCtorEq,Nat.reduceAdd,Nat.reduceLeDiff,Int.reduceLT,Int.reduceLE,↓u_setN]
 refine (c44 u hu (by omega) (by omega)).q' ?_
 have l1:=z14 (τ:=s) (L:=(encU9 u).1) Rd.sl (Store.sub_refl _)
 have l2:=z14 (τ:=s) (Rd.own hv) (Store.sub_refl _)
 simp only [zfy,l1,l2,z9e,zbr,↓vcPre,↓z0,↓reduceIte,vcPost,vcStd,Nat.reduceEqDiff,reduceCtorEq,Nat.reduceAdd,Nat.reduceLeDiff,Int.reduceLT,Int.reduceLE,↓u_setN]
 exact Store.sub_trans hP hs
end Go.Am
namespace Go.Am
theorem Sim.obj {G:Gh} {σ:Store} {w:World} (hs:Sim G σ w) {p:Nat} {o o':Obj} (hp:σ p=some o) (h:∀ b base,G.ρ p=some (b,base)→ORel G w b base o→ORel G w b base o') :
 Sim G (σ.set p o') w∧Ext G σ w G (σ.set p o') w:=by
 have hset:∀ i oi,(σ.set p o') i=some oi→∃ oj,σ i=some oj:=fun i oi h=>by
  by_cases hi:i=p
  ·subst hi;exact ⟨o,hp⟩
  ·rw [Store.set_ne _ _ hi] at h;exact ⟨oi,h⟩
 refine ⟨{ lt:=hs.lt,fin:=hs.fin,blk:=hs.blk,used := ?_,inj := ?_,apart := ?_ },{ Ext.refl G σ w with newOwn := ?_,newId := ?_ }⟩
 ·intro i oi hi
  by_cases e:i=p
  ·subst e
   rw [Store.set_same] at hi;cases hi
   obtain ⟨c,bi,h2,h3⟩:=hs.used i _ hp
   exact ⟨c,bi,h2,h c bi h2 h3⟩
  ·rw [Store.set_ne _ _ e] at hi;exact hs.used i oi hi
 ·intro i j oi oj b bi bj h1 h2
  obtain ⟨a1,k1⟩:=hset i oi h1
  obtain ⟨a2,k2⟩:=hset j oj h2
  exact hs.inj i j a1 a2 b bi bj k1 k2
 ·intro i oi b bi h1
  obtain ⟨a1,k1⟩:=hset i oi h1
  exact hs.apart i a1 b bi k1
 ·rintro c ⟨i,oi,bi,h1,h2⟩
  obtain ⟨a1,k1⟩:=hset i oi h1
  exact .inl ⟨i,a1,bi,k1,h2⟩
 ·intro i oi h1;exact .inl (hset i oi h1)
theorem WeakE.frz {e:Env} {σ:Store} {Q:Env→Store→Prop} (t:Nat) {id esz off len:Nat} {es:List (List AV)} (ht:e.get t=some (.os id esz off len)) (hσ:σ id=some (.arr esz es)) (hle:off+len≤es.length)
 (h:WeakE ((t,.sl esz ((es.drop off).take len))::e) (σ.del id) Q):WeakE e σ Q:=fun G w vs hs hv=>by
 obtain ⟨x,hx,hr⟩:=hv t _ ht
 obtain ⟨G',h1,h2,h3⟩:=uv hs hσ hle hr
 obtain ⟨G2,e2,σ2,g1,g2,g3,g4⟩:=h G' w vs h2 (fun u v hu=>by
  simp only [Env.get] at hu
  split at hu
  ·rename_i he;subst he;cases hu;exact ⟨x,hx,h3⟩
  ·obtain ⟨y,hy,hyr⟩:=hv u v hu;exact ⟨y,hy,h1.vrel hs hyr⟩)
 exact ⟨G2,e2,σ2,h1.trans g1,g2,g3,g4⟩
theorem WeakE.pure {e:Env} {σ:Store} {Q:Env→Store→Prop} (h:Q e σ):WeakE e σ Q:=fun G w vs hs hv=>⟨G,e,σ,Ext.refl _ _ _,hs,hv,h⟩
theorem WeakE.slot {e:Env} {σ:Store} {Q:Env→Store→Prop} (t:Nat) {a b:AV} (ht:e.get t=some a) (hab:∀ G w v,VRel G w a v→VRel G w b v) (h:WeakE ((t,b)::e) σ Q):WeakE e σ Q:=fun G w vs hs hv=>by
 obtain ⟨x,hx,hr⟩:=hv t _ ht
 exact h G w vs hs (fun u v hu=>by
  simp only [Env.get] at hu
  split at hu
  ·rename_i he;subst he;cases hu;exact ⟨x,hx,hab _ _ _ hr⟩
  ·exact hv u v hu)
theorem z1t (esz:Nat) (G:Gh) (w:World) (v:Value) (h:VRel G w .nils v):VRel G w (.sl esz []) v:=by
 have e:=h.of_nils;subst e;exact .sl0
theorem WeakE.nil {e:Env} {σ:Store} {Q:Env→Store→Prop} (t esz:Nat) (ht:e.get t=some .nils) (h:WeakE ((t,.sl esz [])::e) σ Q):WeakE e σ Q := .slot t ht (fun G w v h=>z1t esz G w v h) h
theorem WeakE.own {e:Env} {τ σ:Store} {Q:Env→Store→Prop} (t:Nat) {esz:Nat} {L:List (List AV)} {v:AV} (ht:e.get t=some v) (ho:Own esz τ L v σ) (hs:Store.sub τ σ)
 (h:∀ σ',Store.sub τ σ'→Store.sub σ' σ→(∀ i o,σ i=some o→(∀ n,v ≠ .os i esz 0 n)→σ' i=some o)→WeakE ((t,.sl esz L)::e) σ' Q):WeakE e σ Q:=by
 rcases ho with ⟨rfl,rfl⟩ | ⟨g,rfl,h2,h3⟩
 ·exact .nil t esz ht (h σ hs (Store.sub_refl _) fun _ _ h _=>h)
 ·refine .frz t ht h3 (by omega) ?_
  rw [List.drop_zero,List.take_length]
  refine h _ (sub_del hs h2) (fun j o hj => ?_) fun i o hi hn => ?_
  ·simp only [Store.del] at hj;split at hj
   ·cases hj
   ·exact hj
  ·rw [Store.del_ne _ (fun e=>hn _ (by rw [e]))];exact hi
theorem WeakE.cell {e:Env} {σ:Store} {Q:Env→Store→Prop} (p k:Nat) {a b:AV} {cs:List AV} (hp:σ p=some (.box cs)) (hk:cs[k]? = some a) (hab:∀ G w v,VRel G w a v→VRel G w b v) (hbf:b.flat=true)
 (h:WeakE e (σ.set p (.box (cs.set k b))) Q):WeakE e σ Q:=fun G w vs hs hv=>by
 obtain ⟨hk',hk2⟩:=List.getElem?_eq_some_iff.1 hk
 obtain ⟨h4,h5⟩:=hs.obj (o' := .box (cs.set k b)) hp (fun b' base' hb' ho'=>by
  cases ho' with
  | box hh hsz hf hvv =>
    refine .box hh (by rw [List.length_set];exact hsz) (fun c hc => ?_) (fun i hi => ?_)
    ·rcases List.mem_or_eq_of_mem_set hc with hc | rfl
     ·exact hf c hc
     ·exact hbf
    ·by_cases hik:i=k
     ·subst hik;rw [List.getElem_set_self];have:=hvv i hk';rw [hk2] at this;exact hab _ _ _ this
     ·rw [List.getElem_set_ne (fun e=>hik e.symm)]
      exact hvv i (by simpa using hi))
 obtain ⟨G2,e2,σ2,g1,g2,g3,g4⟩:=h G w vs h4 hv
 exact ⟨G2,e2,σ2,h5.trans g1,g2,g3,g4⟩
theorem EndQ.weak {slots:List RS} {Q:AV→Store→Prop} {e:Env} {τ:Store} (a:AV) (h1:e.res τ slots=some a) (h:Weak a τ Q) : @EndQ e τ ⟨slots,Q⟩:=by
 unfold EndQ;exact ⟨a,h1,h⟩
end Go.Am
namespace Go.Am.Ts9
open Go.Proofs Go.Am.B
def t10_106:BC:=z [⟨some 106,none,.load (.ld 9 true),[.t 1]⟩,p 107 (.build [.nils,(.bool false),(.int .i64 0),.nils,(.int .u32 0),(.bool false),(.int .u32 0),(.bool false),(.int .u32 0),(.bool false),.nils,.nils] [(1,1),(2,9)]) [.c (.bool true),.t 106],g 108 35 [.t 107],m 109 108,⟨some 110,some (109,true),.load (.ld 9 true),[.t 1]⟩,⟨some 111,some (109,true),.pure (.build [.nils,(.bool false),(.int .i64 0),.nils,(.int .u32 0),(.bool false),(.int .u32 0),(.bool false),(.int .u32 0),(.bool false),.nils,.nils] [(2,9)]),[.t 110]⟩,⟨some 112,some (109,true),.loud (.call 35),[.t 111]⟩,⟨some 113,none,.pick,[.t 109,.t 112,.c (.bool false)]⟩,m 114 113,⟨some 115,some (114,true),.pure (.mov),[.t 7]⟩,⟨some 116,some (114,true),.pure (.slice 2 false true),[.t 115,.c (.int .i64 1)]⟩,⟨some 117,some (114,true),.pure (.build [.nils,(.bool false),(.int .i64 0),.nils,(.int .u32 0),(.bool false),(.int .u32 0),(.bool false),(.int .u32 0),(.bool false),.nils,.nils] [(11,1)]),[.t 116]⟩,⟨some 118,some (114,true),.loud (.call 35),[.t 117]⟩,⟨some 119,none,.pick,[.t 114,.t 118,.c (.bool false)]⟩,m 120 119,⟨some 121,some (120,true),.loud (.call 21),[]⟩,⟨some 122,none,.pick,[.t 120,.t 121,.c (.bool false)]⟩,m 0 122] [0] .ret
def t10_7:BC:=z [k 7 .nils] [1,7] (.seq (z [j 8 0] [1,7,8] (.block 4 (.loop [1,7,8] (.seq (z [m 69 8,c 70 .lss 69 900] [1,7,8,70] (.cond (.t 70) .skip (.exit 4))) (.seq (.block 5 (.ops [m 73 7,m 74 8,u 75 (.conv .u32) 74,p 76 (.build [(.int .u32 0),(.int .i64 0)] [(0,1),(1,1)]) [.t 75,.c (.int .i64 32)],⟨some 77,none,.alloc (.mksl 2 1),[.t 76]⟩,⟨some 78,none,.loud (.app 2 16),[.t 73,.t 77]⟩,m 7 78] [1,7,8])) (.ops [m 71 8,c 72 .add 71 1,m 8 72] [1,7,8])))))) (.seq (.seq (.wk 20 (.ops [⟨some 79,none,.alloc (.mksl 1 7),[.c (.int .i64 0),.c (.int .i64 1),.c (.int .i64 813),.c (.int .i64 814),.c (.int .i64 815),.c (.int .i64 816),.c (.int .i64 900)]⟩,u 80 .len 79,j 81 0] [1,7,79,80,81])) (.block 6 (.loop [1,7,79,80,81] (z [b 82 .lss 81 80] [1,7,79,80,81,82] (.seq (.cond (.t 82) .skip (.exit 6)) (.seq (.block 7 (z [x 83 1 79 81,l 84 1 83,m 10 84] [1,7,10,79,80,81] (z [m 85 7,m 86 10,p 87 (.slice 2 false true) [.t 85,.t 86],p 88 (.build [.nils,(.bool false),(.int .i64 0),.nils,(.int .u32 0),(.bool false),(.int .u32 0),(.bool false),(.int .u32 0),(.bool false),.nils,.nils] [(0,1)]) [.t 87],g 89 35 [.t 88],u 90 .not 89,m 91 90,⟨some 92,some (91,false),.pure (.mov),[.t 10]⟩,⟨some 93,some (91,false),.pure (.bin .gtr),[.t 92,.c (.int .i64 0)]⟩,⟨some 95,some (91,false),.pure (.mov),[.t 10]⟩,⟨some 96,some (91,false),.pure (.bin .gtr),[.t 95,.c (.int .i64 0)]⟩,⟨some 98,some (91,false),.pure (.mov),[.t 7]⟩,⟨some 99,some (91,false),.pure (.mov),[.t 10]⟩,⟨some 100,some (91,false),.pure (.slice 2 false true),[.t 98,.t 99]⟩,⟨some 94,some (91,false),.load (.ld 9 true),[.t 1]⟩,⟨some 97,some (91,false),.loud (.call 36),[.t 94,.t 96]⟩,⟨some 101,some (91,false),.pure (.build [.nils,(.bool false),(.int .i64 0),.nils,(.int .u32 0),(.bool false),(.int .u32 0),(.bool false),(.int .u32 0),(.bool false),.nils,.nils] [(1,1),(2,9),(11,1)]),[.t 93,.t 97,.t 100]⟩,⟨some 102,some (91,false),.loud (.call 35),[.t 101]⟩,⟨some 103,some (91,false),.pure (.not),[.t 102]⟩,⟨some 104,none,.pick,[.t 91,.c (.bool true),.t 103]⟩] [1,7,79,80,81,104] (.cond (.t 104) (z [k 0 (.bool false)] [0] .ret) .skip)))) (.ops [c 105 .add 81 1,m 81 105] [1,7,79,80,81]))))))) t10_106))
def b10:BC:=z [k 0 (.bool false)] [] (z [p 11 (.build [(.int .i64 0),.nils,(.int .u32 0),(.bool false),(.int .u32 0),(.bool false),(.int .u32 0),(.bool false),.nils] [(2,1),(5,1),(6,1)]) [.c (.int .u32 16909060),.c (.bool true),.c (.int .u32 7)],⟨some 1,none,.alloc (.alloc [(.int .i64 0),.nils,(.int .u32 0),(.bool false),(.int .u32 0),(.bool false),(.int .u32 0),(.bool false),.nils]),[]⟩,s 9 1 11] [1] (.seq (.wk 2 (.ops [⟨some 12,none,.load (.ld 9 true),[.t 1]⟩,g 13 34 [.t 12],m 2 13] [1,2])) (.seq (.seq (.wk 3 (.ops [m 14 2,p 15 (.slice 1 false true) [.t 14,.c (.int .i64 4)],m 16 2,p 17 (.slice 1 true false) [.t 16,.c (.int .i64 4)],m 19 2,p 20 (.slice 1 false true) [.t 19,.c (.int .i64 4)],m 22 2,p 23 (.slice 1 true false) [.t 22,.c (.int .i64 7)],m 25 2,m 26 2,u 27 .len 26,c 28 .sub 27 7,p 29 (.slice 1 false true) [.t 25,.t 28],m 30 2,j 33 0,⟨some 18,none,.alloc (.mksl 1 0),[]⟩,⟨some 21,none,.loud (.app 1 1),[.t 18,.t 20]⟩,⟨some 24,none,.loud (.app 1 1),[.t 21,.t 23]⟩,⟨some 31,none,.alloc (.mksl 1 6),[.c .nils,.t 15,.t 17,.t 24,.t 29,.t 30]⟩,u 32 .len 31] [1,31,32,33])) (.block 0 (.loop [1,31,32,33] (z [b 34 .lss 33 32] [1,31,32,33,34] (.seq (.cond (.t 34) .skip (.exit 0)) (.seq (.block 1 (z [x 35 1 31 33,l 36 1 35,m 4 36] [1,4,31,32,33] (z [⟨some 37,none,.alloc (.mksl 1 4),[.c (.int .u8 0),.c (.int .u8 2),.c (.int .u8 8),.c (.int .u8 10)]⟩,m 38 4,u 39 .len 38,g 40 23 [.t 37,.t 39],m 41 4,⟨some 42,none,.loud (.app 1 1),[.t 40,.t 41]⟩,⟨some 43,none,.alloc (.mksl 1 2),[.c (.int .u8 8),.c (.int .u8 11)]⟩,⟨some 44,none,.loud (.app 1 1),[.t 42,.t 43]⟩,m 5 44] [1,5,31,32,33] (.seq (z [j 6 0] [1,5,6,31,32,33] (.block 2 (.loop [1,5,6,31,32,33] (.seq (z [m 45 6,m 46 5,u 47 .len 46,b 48 .leq 45 47] [1,5,6,31,32,33,48] (.cond (.t 48) .skip (.exit 2))) (.seq (.block 3 (z [m 51 5,m 52 6,p 53 (.slice 1 false true) [.t 51,.t 52],g 54 20 [.t 53],u 55 .not 54] [1,5,6,31,32,33,55] (.cond (.t 55) (z [k 0 (.bool false)] [0] .ret) .skip))) (.ops [m 49 6,c 50 .add 49 1,m 6 50] [1,5,6,31,32,33])))))) (z [m 56 5,⟨some 57,none,.alloc (.mksl 1 1),[.c (.int .u8 33)]⟩,⟨some 58,none,.loud (.app 1 1),[.t 56,.t 57]⟩,g 59 20 [.t 58],u 60 .not 59,m 61 60,⟨some 62,some (61,false),.alloc (.mksl 1 3),[.c (.int .u8 0),.c (.int .u8 1),.c (.int .u8 33)]⟩,⟨some 63,some (61,false),.pure (.mov),[.t 5]⟩,⟨some 64,some (61,false),.loud (.app 1 1),[.t 62,.t 63]⟩,⟨some 65,some (61,false),.loud (.call 20),[.t 64]⟩,⟨some 66,some (61,false),.pure (.not),[.t 65]⟩,⟨some 67,none,.pick,[.t 61,.c (.bool true),.t 66]⟩] [1,31,32,33,67] (.cond (.t 67) (z [k 0 (.bool false)] [0] .ret) .skip)))))) (.ops [c 68 .add 33 1,m 33 68] [1,31,32,33]))))))) t10_7)))
def F10:Fn Tryz.prog 10:=Fn.mkW false [2,3,20] b10 [.t 0] 123 Tryz.f10 _ Tryz.func10 (by decide) rfl Tryz.ntmps10 (by kernel_rfl) (by kernel_rfl)
end Go.Am.Ts9
namespace Go.Am
open Go.Proofs Go.Sort
theorem uo {f:Nat} {cells cells':List AV} {s:Store} {Q:AV→Store→Prop} (hi:ImpL cells cells') (h:ACalls Tryz.prog f [.agg cells'] s Q):ACalls Tryz.prog f [.agg cells] s Q :=
 ACalls.weakArgs h.1 (WeakL.pos 0 rfl (Imp.agg hi (WeakL.pure h)))
theorem c36 (a:At) (b:Bool):Pur Tryz.prog 36 [.agg a.c,.bool b] (.agg (if b then a else zeroAt).c):=by
 intro σ
 refine ze Tst.F36 (by simp [Tst.F36,Fn.mkX]) ?_
 simp only [Tst.F36,Fn.mkX,Tst.b36,wi]
 have e9:∀ x:At,x.c.length=9:=fun _=>rfl
 have t9:∀ x:At,List.take 9 x.c=x.c:=fun _=>rfl
 have spZ:∀ x:At,splice 0 x.c zC=some x.c:=fun _=>rfl
 have sp0:splice 0 zC zC=some zC:=rfl
 have tz:List.take 9 zC=zC:=rfl
 have lz:zC.length=9:=rfl
 have bz:pv (.build zC []) []=some (.agg zC):=rfl
 simp only [↓vcPre,↓z0,↓reduceIte,vcPost,vcStd,Nat.reduceEqDiff,reduceCtorEq,Nat.reduceAdd,Nat.reduceLeDiff,Int.reduceLT,Int.reduceLE,↓u_setN]
 refine AllocQ.i0 fun i hi => ?_
 simp only [↓vcPre,↓z0,↓reduceIte,vcPost,vcStd,Nat.reduceEqDiff,reduceCtorEq,Nat.reduceAdd,Nat.reduceLeDiff,Int.reduceLT,Int.reduceLE,↓u_setN]
 refine AllocQ.i1 fun j hji hij hj => ?_
 cases b
 ·simp only [hji,hij,sp0,bz,tz,lz,Nat.le_refl,↓vcPre,↓z0,↓reduceIte,vcPost,vcStd,Nat.reduceEqDiff,reduceCtorEq,Nat.reduceAdd,Nat.reduceLeDiff,Int.reduceLT,Int.reduceLE,↓u_setN]
  refine EndQ.weak (.agg zC) ?_ (Weak.forget (z8 (zq hi hj hji) hj) (ze3 ⟨rfl,rfl⟩))
  simp only [Tst.F36,Fn.mkX,tz,lz,Nat.le_refl,↓vcPre,↓z0,↓reduceIte,vcPost,vcStd,Nat.reduceEqDiff,reduceCtorEq,Nat.reduceAdd,Nat.reduceLeDiff,Int.reduceLT,Int.reduceLE,↓u_setN]
 ·simp only [hji,hij,spZ,e9,t9,Nat.le_refl,↓vcPre,↓z0,↓reduceIte,vcPost,vcStd,Nat.reduceEqDiff,reduceCtorEq,Nat.reduceAdd,Nat.reduceLeDiff,Int.reduceLT,Int.reduceLE,↓u_setN]
  refine EndQ.to σ (.agg a.c) ?_ (z8 (zq hi hj hji) hj) ⟨rfl,rfl⟩
  simp only [Tst.F36,Fn.mkX,e9,t9,Nat.le_refl,↓vcPre,↓z0,↓reduceIte,vcPost,vcStd,Nat.reduceEqDiff,reduceCtorEq,Nat.reduceAdd,Nat.reduceLeDiff,Int.reduceLT,Int.reduceLE,↓u_setN]
theorem s34 (a:At) (ha:encOk a) (σ:Store):ACalls Tryz.prog 34 [.agg a.c] σ (fun r s=>Store.sub σ s∧Own 1 σ ((encA a).map cB) r s):=by
 refine ze Tst.F34 (by simp [Tst.F34,Fn.mkX]) ?_
 simp only [Tst.F34,Fn.mkX,Tst.b34]
 have e9:∀ x:At,x.c.length=9:=fun _=>rfl
 have t9:∀ x:At,List.take 9 x.c=x.c:=fun _=>rfl
 simp only [↓vcPre,↓z0,↓reduceIte,vcPost,vcStd,Nat.reduceEqDiff,reduceCtorEq,Nat.reduceAdd,Nat.reduceLeDiff,Int.reduceLT,Int.reduceLE,↓u_setN]
 refine AllocQ.i0 fun i hi => ?_
 simp only [e9,t9,Nat.le_refl,↓vcPre,↓z0,↓reduceIte,vcPost,vcStd,Nat.reduceEqDiff,reduceCtorEq,Nat.reduceAdd,Nat.reduceLeDiff,Int.reduceLT,Int.reduceLE,↓u_setN]
 have hi':=Store.sub_set σ i (.box a.c) hi
 refine (s11 a ha _).Q ?_
 rintro r s ⟨h1,h2⟩
 simp only [↓vcPre,↓z0,↓reduceIte,vcPost,vcStd,Nat.reduceEqDiff,reduceCtorEq,Nat.reduceAdd,Nat.reduceLeDiff,Int.reduceLT,Int.reduceLE,↓u_setN]
 exact EndQ.to s r rfl (Store.sub_refl _) ⟨Store.sub_trans hi' h1,h2.weak hi'⟩
def a0:At:=⟨0,[],16909060,false,0,true,7,false,[]⟩
theorem a0_enc:encOk a0:=⟨by decide,by decide,by decide⟩
theorem zbo:(encA a0).length=21:=by decide
theorem zds {x y:AV} {ac:List AV} (u:Up) (hx:Imp x (.sl 2 (u.w.map pxC))) (ha:ImpL ac u.a.c) (hy:Imp y (.sl 2 (u.n.map pxC))):ImpL (x :: .bool u.has::(ac++[y])) u.c :=
 .cons hx (.cons (.refl rfl) (ha.append (.cons hy .nil)))
theorem z6a (a:At):ImpL a.c a.c:=ImpL.refl _ (by
 intro c hc
 simp only [At.c,List.mem_cons,List.not_mem_nil,or_false] at hc
 rcases hc with rfl | rfl | rfl | rfl | rfl | rfl | rfl | rfl | rfl <;> rfl)
theorem vw (w n:List (Int×Int)) (b c:Bool) (hw:w.length≤100000) (hn:n.length≤100000):Pur Tryz.prog 35 [.agg (⟨w,b,if c then a0 else zeroAt,n⟩:Up).c] (.bool true):=by
 have ok0:a0.ok:=a0_enc.ok
 have hz:encOk zeroAt∧(encA zeroAt).length≤1000000:=⟨⟨by decide,by decide,by decide⟩,by decide⟩
 have h0:(encA a0).length≤1000000:=by decide
 cases c
 ·exact c35 _ yq hw hn fun _=>hz
 ·exact c35 _ ok0 hw hn fun _=>⟨a0_enc,h0⟩
def ns9:List Int:=[0,1,813,814,815,816,900]
section
variable {p:Nat} {T:Store} {L:List (Int×Int)} {n r:Env→Store→Prop} {x:Nat→Env→Store→Prop}
theorem z5p (a:At):splice 0 a.c [.int .i64 0,.nils,.int .u32 0,.bool false,.int .u32 0,.bool false,.int .u32 0,.bool false,.nils,.nils]=some (a.c++[.nils]):=rfl
theorem zc6 (u:Up) (hw:u.w=[]) (hn:u.n=[]):ImpL (.nils :: .bool u.has::(u.a.c++[.nils])) u.c:=zds u (by rw [hw];exact .nils) (z6a _) (by rw [hn];exact .nils)
theorem z73 (Tp:T p=some (.box a0.c)) (hL:L.length=900) (E:List (Nat×AV)) (hr:r [(0,.bool true)] T):bwp Tryz.prog Ts9.t10_106 ((1,.ptr p 0)::(7,.sl 2 (L.map pxC))::E) T n r x:=by
 simp only [Ts9.t10_106]
 have e9:∀ x:At,x.c.length=9:=fun _=>rfl
 have t9:∀ x:At,List.take 9 x.c=x.c:=fun _=>rfl
 simp only [Tp,e9,t9,Nat.le_refl,z5p,↓vcPre,↓z0,↓reduceIte,vcPost,vcStd,Nat.reduceEqDiff,reduceCtorEq,Nat.reduceAdd,Nat.reduceLeDiff,Int.reduceLT,Int.reduceLE,↓u_setN]
 refine (uo (zc6 ⟨[],true,a0,[]⟩ rfl rfl) (vw [] [] true true (by simp) (by simp) _)).Q ?_
 rintro q s ⟨rfl,rfl⟩
 simp only [Tp,e9,t9,Nat.le_refl,z5p,↓vcPre,↓z0,↓reduceIte,vcPost,vcStd,Nat.reduceEqDiff,reduceCtorEq,Nat.reduceAdd,Nat.reduceLeDiff,Int.reduceLT,Int.reduceLE,↓u_setN]
 refine (uo (zc6 ⟨[],false,a0,[]⟩ rfl rfl) (vw [] [] false true (by simp) (by simp) _)).Q ?_
 rintro q s ⟨rfl,rfl⟩
 simp only [Tp,e9,t9,Nat.le_refl,z5p,hL,↓vcPre,↓z0,↓reduceIte,vcPost,vcStd,Nat.reduceEqDiff,reduceCtorEq,Nat.reduceAdd,Nat.reduceLeDiff,Int.reduceLT,Int.reduceLE,↓u_setN]
 refine ⟨by simp,?_⟩
 refine (uo (cells':=(⟨[],false,zeroAt,L.take 1⟩:Up).c) ?_ (vw [] (L.take 1) false false (by simp) (by simp;omega) _)).Q ?_
 ·exact .cons .nils (.cons (.refl rfl) (zC_imp.append (.cons (by rw [List.map_take];exact .refl rfl) .nil)))
 rintro q s ⟨rfl,rfl⟩
 simp only [↓vcPre,↓z0,↓reduceIte,vcPost,vcStd,Nat.reduceEqDiff,reduceCtorEq,Nat.reduceAdd,Nat.reduceLeDiff,Int.reduceLT,Int.reduceLE,↓u_setN]
 refine c21.Q ?_
 simp only [↓vcPre,↓z0,↓reduceIte,vcPost,vcStd,Nat.reduceEqDiff,reduceCtorEq,Nat.reduceAdd,Nat.reduceLeDiff,Int.reduceLT,Int.reduceLE,↓u_setN]
 exact hr
def many9 (k:Nat):List (Int×Int):=(List.range k).map fun i:Nat=>((i:Int),(32:Int))
theorem wy (k:Nat):(many9 k).length=k:=by simp [many9]
theorem z5i (k:Nat):many9 (k+1)=many9 k++[((k:Int),32)]:=by simp [many9,List.range_succ]
theorem zad (Tp:T p=some (.box a0.c)) (E:List (Nat×AV)) (hr:∀ t',Store.sub T t'→r [(0,.bool true)] t'):bwp Tryz.prog Ts9.t10_7 ((1,.ptr p 0)::E) T n r x:=by
 simp only [Ts9.t10_7]
 have e9:∀ x:At,x.c.length=9:=fun _=>rfl
 have t9:∀ x:At,List.take 9 x.c=x.c:=fun _=>rfl
 simp only [↓vcPre,↓z0,↓reduceIte,vcPost,vcStd,Nat.reduceEqDiff,reduceCtorEq,Nat.reduceAdd,Nat.reduceLeDiff,Int.reduceLT,Int.reduceLE,↓u_setN]
 refine LoopQ.inv (S:=Nat×AV×Store) (fun q=>[(1,.ptr p 0),(7,q.2.1),(8,.int .i64 (q.1:Int))]) (fun q=>q.2.2) (fun q=>q.1≤900∧Store.sub T q.2.2∧Own 2 T ((many9 q.1).map pxC) q.2.1 q.2.2) (fun q=>901 - q.1) (0,.nils,T) rfl (Store.sub_refl _) ⟨by simp only;omega,Store.sub_refl _,Own.nil⟩ ?_
 rintro ⟨k,v,s⟩ ⟨hk,hs,ho⟩
 simp only at hk hs ho
 simp only [↓vcPre,↓z0,↓reduceIte,vcPost,vcStd,Nat.reduceEqDiff,reduceCtorEq,Nat.reduceAdd,Nat.reduceLeDiff,Int.reduceLT,Int.reduceLE,↓u_setN]
 refine ⟨fun c1 => ?_,fun c1 => ?_⟩
 ·have ek:IntKind.i64.wrap ((k:Int)+1)=((k+1:Nat):Int):=by rw [zb (by unfold I64;omega)];omega
  have e32:IntKind.u32.wrap (k:Int)=(k:Int):=by rw [z0t];omega
  rw [e32]
  refine AllocQ.i0 fun q hq => ?_
  simp only [↓vcPre,↓z0,↓reduceIte,vcPost,vcStd,Nat.reduceEqDiff,reduceCtorEq,Nat.reduceAdd,Nat.reduceLeDiff,Int.reduceLT,Int.reduceLE,↓u_setN]
  have hsq:=Store.sub_set s q (.arr 2 [[.int .u32 (k:Int),.int .i64 32]]) hq
  refine Own.appM (τ:=T) (Store.sub_trans hs hsq) (ho.mono hsq) (zr (Store.set_same _ _ _) rfl) (by simp [wy];omega) fun v1 s1 hs1 ho1 => ?_
  rw [ek]
  refine NextQ.to (k+1,v1,s1) rfl (Store.sub_refl _) (by simp only;omega) ⟨by simp only;omega,hs1,?_⟩
  simp only
  rw [z5i,List.map_append]
  exact ho1
 ·have hk9:k=900:=by omega
  subst hk9
  refine WkQ.of (WeakE.own (τ:=T) 7 rfl ho hs fun s1 h1 h2 h3=>WeakE.pure ?_)
  have m7:alv (.mksl 1 7) [.int .i64 0,.int .i64 1,.int .i64 813,.int .i64 814,.int .i64 815,.int .i64 816,.int .i64 900]=some (.arr 1 (ns9.map cI),fun id => .os id 1 0 7):=rfl
  simp only [m7,↓vcPre,↓z0,↓reduceIte,vcPost,vcStd,Nat.reduceEqDiff,reduceCtorEq,Nat.reduceAdd,Nat.reduceLeDiff,Int.reduceLT,Int.reduceLE,↓u_setN]
  refine AllocQ.i0 fun q hq => ?_
  simp only [↓vcPre,↓z0,↓reduceIte,vcPost,vcStd,Nat.reduceEqDiff,reduceCtorEq,Nat.reduceAdd,Nat.reduceLeDiff,Int.reduceLT,Int.reduceLE,↓u_setN]
  have U1:Store.sub T (s1.set q (.arr 1 (ns9.map cI))):=Store.sub_trans h1 (Store.sub_set s1 q _ hq)
  have U2:(s1.set q (.arr 1 (ns9.map cI))) q=some (.arr 1 (ns9.map cI)):=Store.set_same _ _ _
  generalize s1.set q (.arr 1 (ns9.map cI))=U at U1 U2 ⊢
  have U3:=U1 _ _ Tp
  have nl:ns9.length=7:=rfl
  have hn9:∀ i (h:i<ns9.length),0≤ns9[i]∧ns9[i]≤900:=by decide
  refine LoopQ.inv (S:=Nat) (fun k=>[(1,.ptr p 0),(7,.sl 2 ((many9 900).map pxC)),(79,.os q 1 0 7),(80,.int .i64 7),(81,.int .i64 (k:Int))]) (fun _=>U) (fun k=>k≤7) (fun k=>8 - k) 0 rfl (Store.sub_refl _) (by omega) ?_
  rintro k hk
  simp only [↓vcPre,↓z0,↓reduceIte,vcPost,vcStd,Nat.reduceEqDiff,reduceCtorEq,Nat.reduceAdd,Nat.reduceLeDiff,Int.reduceLT,Int.reduceLE,↓u_setN]
  refine ⟨fun c1 => ?_,fun c1 => ?_⟩
  ·have ek:IntKind.i64.wrap ((k:Int)+1)=((k+1:Nat):Int):=by rw [zb (by unfold I64;omega)];omega
   have hk7:k<ns9.length:=by omega
   obtain ⟨g1,g2⟩:=hn9 k hk7
   simp only [U2,↓vcPre,↓z0,↓reduceIte,vcPost,vcStd,Nat.reduceEqDiff,reduceCtorEq,Nat.reduceAdd,Nat.reduceLeDiff,Int.reduceLT,Int.reduceLE,↓u_setN]
   refine ⟨by omega,by simp;omega,by simp [cI],?_⟩
   simp only [Nat.zero_add]
   generalize ns9[k]=N at g1 g2 ⊢
   simp only [cI,↓vcPre,↓z0,↓reduceIte,vcPost,vcStd,Nat.reduceEqDiff,reduceCtorEq,Nat.reduceAdd,Nat.reduceLeDiff,Int.reduceLT,Int.reduceLE,↓u_setN]
   have ed:List.drop (Int.toNat 0) (List.take ((some N).getD ((many9 900).length:Int)).toNat (List.map pxC (many9 900)))=((many9 900).take N.toNat).map pxC:=by simp [List.map_take]
   have eb:∀ y:List (List AV),splice 0 (zeroAt.c) y.flatten=splice 0 zeroAt.c y.flatten:=fun _=>rfl
   refine ⟨⟨by simpa using g1,by simp [wy];omega⟩,?_⟩
   rw [ed]
   have hl:((many9 900).take N.toNat).length≤100000:=by rw [List.length_take,wy];omega
   refine (uo (cells':=(⟨(many9 900).take N.toNat,false,zeroAt,[]⟩:Up).c) ?_ (vw _ [] false false hl (by simp) _)).Q ?_
   ·exact .cons (.refl rfl) (.cons (.refl rfl) (zC_imp.append (.cons .nils .nil)))
   rintro q2 s2 ⟨rfl,rfl⟩
   simp only [U3,e9,t9,Nat.le_refl,↓vcPre,↓z0,↓reduceIte,vcPost,vcStd,Nat.reduceEqDiff,reduceCtorEq,Nat.reduceAdd,Nat.reduceLeDiff,Int.reduceLT,Int.reduceLE,↓u_setN]
   refine ⟨⟨by simpa using g1,by simp [wy];omega⟩,?_⟩
   refine (c36 a0 (decide (0<N))).Q ?_
   have sp11:∀ (a:At) (v:AV),splice 9 [v] (a.c++[.nils])=some (a.c++[v]):=fun _ _=>rfl
   have same:=fun M hl=>vw [] M (decide (0<N)) (decide (0<N)) (by simp) hl
   simp only [decide_eq_true_eq] at same
   simp only [ed,z5p,sp11,e9,↓vcPre,↓z0,↓reduceIte,vcPost,vcStd,Nat.reduceEqDiff,reduceCtorEq,Nat.reduceAdd,Nat.reduceLeDiff,Int.reduceLT,Int.reduceLE,↓u_setN]
   refine (uo (cells':=(⟨[],decide (0<N),if 0<N then a0 else zeroAt,(many9 900).take N.toNat⟩:Up).c) ?_ (same _ hl _)).Q ?_
   ·exact .cons .nils (.cons (.refl rfl) ((z6a _).append (.cons (.refl rfl) .nil)))
   rintro q3 s3 ⟨rfl,rfl⟩
   simp only [↓vcPre,↓z0,↓reduceIte,vcPost,vcStd,Nat.reduceEqDiff,reduceCtorEq,Nat.reduceAdd,Nat.reduceLeDiff,Int.reduceLT,Int.reduceLE,↓u_setN]
   rw [ek]
   exact NextQ.to (k+1) rfl (Store.sub_refl _) (by omega) (by omega)
  ·exact z73 U3 (wy _) _ (hr _ U1)
end
set_option maxHeartbeats 1000000 in
theorem z43:Pur Tryz.prog 10 [] (.bool true):=by
 refine zo Ts9.F10 (by simp [Ts9.F10,Fn.mkW]) fun σ => ?_
 simp only [Ts9.F10,Fn.mkW,Ts9.b10,wi]
 have e9:∀ x:At,x.c.length=9:=fun _=>rfl
 have t9:∀ x:At,List.take 9 x.c=x.c:=fun _=>rfl
 have bz:pv (.build zC [(2,1),(5,1),(6,1)]) [.int .u32 16909060,.bool true,.int .u32 7]=some (.agg [.int .i64 0,.nils,.int .u32 16909060,.bool false,.int .u32 0,.bool true,.int .u32 7,.bool false,.nils]):=rfl
 have spz:splice 0 [.int .i64 0,.nils,.int .u32 16909060,.bool false,.int .u32 0,.bool true,.int .u32 7,.bool false,.nils] zC=some [.int .i64 0,.nils,.int .u32 16909060,.bool false,.int .u32 0,.bool true,.int .u32 7,.bool false,.nils]:=rfl
 simp only [bz,spz,↓vcPre,↓z0,↓reduceIte,vcPost,vcStd,Nat.reduceEqDiff,reduceCtorEq,Nat.reduceAdd,Nat.reduceLeDiff,Int.reduceLT,Int.reduceLE,↓u_setN]
 refine AllocQ.i0 fun p hp => ?_
 simp only [spz,↓vcPre,↓z0,↓reduceIte,vcPost,vcStd,Nat.reduceEqDiff,reduceCtorEq,Nat.reduceAdd,Nat.reduceLeDiff,Int.reduceLT,Int.reduceLE,↓u_setN]
 refine WkQ.of (WeakE.cell p 1 (Store.set_same _ _ _) rfl (fun G w v h=>z1t 2 G w v h) rfl (WeakE.cell p 8 (Store.set_same _ _ _) rfl (fun G w v h=>z1t 1 G w v h) rfl (WeakE.pure ?_)))
 have hT:Store.sub σ ((((σ.set p (.box zC)).set p (.box [.int .i64 0,.nils,.int .u32 16909060,.bool false,.int .u32 0,.bool true,.int .u32 7,.bool false,.nils])).set p (.box [.int .i64 0,.sl 2 [],.int .u32 16909060,.bool false,.int .u32 0,.bool true,.int .u32 7,.bool false,.nils])).set p (.box a0.c)):=z8 (z8 (z8 (Store.sub_set σ p _ hp) hp) hp) hp
 have Tp:((((σ.set p (.box zC)).set p (.box [.int .i64 0,.nils,.int .u32 16909060,.bool false,.int .u32 0,.bool true,.int .u32 7,.bool false,.nils])).set p (.box [.int .i64 0,.sl 2 [],.int .u32 16909060,.bool false,.int .u32 0,.bool true,.int .u32 7,.bool false,.nils])).set p (.box a0.c)) p=some (.box a0.c):=Store.set_same _ _ _
 change bwp _ _ _ ((((σ.set p (.box zC)).set p (.box [.int .i64 0,.nils,.int .u32 16909060,.bool false,.int .u32 0,.bool true,.int .u32 7,.bool false,.nils])).set p (.box [.int .i64 0,.sl 2 [],.int .u32 16909060,.bool false,.int .u32 0,.bool true,.int .u32 7,.bool false,.nils])).set p (.box a0.c)) _ _ _
 generalize ((((σ.set p (.box zC)).set p (.box [.int .i64 0,.nils,.int .u32 16909060,.bool false,.int .u32 0,.bool true,.int .u32 7,.bool false,.nils])).set p (.box [.int .i64 0,.sl 2 [],.int .u32 16909060,.bool false,.int .u32 0,.bool true,.int .u32 7,.bool false,.nils])).set p (.box a0.c))=T at hT Tp ⊢
 simp only [Tp,e9,t9,Nat.le_refl,↓vcPre,↓z0,↓reduceIte,vcPost,vcStd,Nat.reduceEqDiff,reduceCtorEq,Nat.reduceAdd,Nat.reduceLeDiff,Int.reduceLT,Int.reduceLE,↓u_setN]
 refine (s34 a0 a0_enc T).Q ?_
 rintro y s ⟨hs,hy⟩
 simp only [↓vcPre,↓z0,↓reduceIte,vcPost,vcStd,Nat.reduceEqDiff,reduceCtorEq,Nat.reduceAdd,Nat.reduceLeDiff,Int.reduceLT,Int.reduceLE,↓u_setN]
 refine WkQ.of (WeakE.own (τ:=T) 2 rfl hy hs fun s1 h1 h2 h3=>WeakE.pure ?_)
 have S1:=h1 _ _ Tp
 have hσ1:=Store.sub_trans hT h1
 have wl:=zbo
 have wu:=z9i a0
 generalize encA a0=wh at wl wu ⊢
 have w14:IntKind.i64.wrap ((wh.length:Int) - 7)=14:=by rw [wl];decide
 have d1:List.drop (Int.toNat 0) (List.take ((some 4).getD (wh.length:Int)).toNat (wh.map cB))=(wh.take 4).map cB:=by simp [List.map_take]
 have d2:List.drop (Int.toNat 4) (List.take ((none:Option Int).getD (wh.length:Int)).toNat (wh.map cB))=(wh.drop 4).map cB:=by rw [Option.getD_none,Int.toNat_natCast,List.take_of_length_le (by simp),←List.map_drop];rfl
 have d3:List.drop (Int.toNat 7) (List.take ((none:Option Int).getD (wh.length:Int)).toNat (wh.map cB))=(wh.drop 7).map cB:=by rw [Option.getD_none,Int.toNat_natCast,List.take_of_length_le (by simp),←List.map_drop];rfl
 have d4:List.drop (Int.toNat 0) (List.take ((some 14).getD (wh.length:Int)).toNat (wh.map cB))=(wh.take 14).map cB:=by simp [List.map_take]
 simp only [w14,↓vcPre,↓z0,↓reduceIte,vcPost,vcStd,Nat.reduceEqDiff,reduceCtorEq,Nat.reduceAdd,Nat.reduceLeDiff,Int.reduceLT,Int.reduceLE,↓u_setN]
 refine ⟨by simp [wl],by simp [wl],by simp [wl],by simp [wl],by simp [wl],?_⟩
 refine AllocQ.i0 fun q hq => ?_
 simp only [d1,d2,d3,d4,↓vcPre,↓z0,↓reduceIte,vcPost,vcStd,Nat.reduceEqDiff,reduceCtorEq,Nat.reduceAdd,Nat.reduceLeDiff,Int.reduceLT,Int.reduceLE,↓u_setN]
 have hsq:=Store.sub_set s1 q (.arr 1 []) hq
 refine Own.appM (τ:=s1) hsq (Own.new (L:=[]) hq) vz (by simp;omega) fun v1 u1 hu1 ho1 => ?_
 refine Own.appM (τ:=s1) hu1 ho1 vz (by simp;omega) fun v2 u2 hu2 ho2 => ?_
 simp only [List.nil_append,←List.map_append] at ho2
 have m6:∀ v:AV,(v = .nils∨∃ g n,v = .os g 1 0 n)→alv (.mksl 1 6) [.nils,.sl 1 ((wh.take 4).map cB),.sl 1 ((wh.drop 4).map cB),v,.sl 1 ((wh.take 14).map cB),.sl 1 (wh.map cB)]=some (.arr 1 [[.nils],[.sl 1 ((wh.take 4).map cB)],[.sl 1 ((wh.drop 4).map cB)],[v],[.sl 1 ((wh.take 14).map cB)],[.sl 1 (wh.map cB)]],fun id => .os id 1 0 6):=by
  rintro v (rfl | ⟨g,n,rfl⟩) <;> rfl
 have hv2:v2 = .nils∨∃ g n,v2 = .os g 1 0 n:=by
  rcases ho2 with ⟨_,h⟩ | ⟨g,h,_⟩
  ·exact .inl h
  ·exact .inr ⟨g,_,h⟩
 simp only [m6 v2 hv2,↓vcPre,↓z0,↓reduceIte,vcPost,vcStd,Nat.reduceEqDiff,reduceCtorEq,Nat.reduceAdd,Nat.reduceLeDiff,Int.reduceLT,Int.reduceLE,↓u_setN]
 refine AllocQ.i0 fun x hx => ?_
 simp only [↓vcPre,↓z0,↓reduceIte,vcPost,vcStd,Nat.reduceEqDiff,reduceCtorEq,Nat.reduceAdd,Nat.reduceLeDiff,Int.reduceLT,Int.reduceLE,↓u_setN]
 have hA:∀ k,∀ h:k<6,∃ v W,([[.nils],[.sl 1 ((wh.take 4).map cB)],[.sl 1 ((wh.drop 4).map cB)],[v2],[.sl 1 ((wh.take 14).map cB)],[.sl 1 (wh.map cB)]]:List (List AV))[k]? = some [v]∧Rd 1 u2 (W.map cB) v∧U8s W∧W.length≤21:=by
  intro k h
  rcases (show k=0∨k=1∨k=2∨k=3∨k=4∨k=5 by omega) with rfl | rfl | rfl | rfl | rfl | rfl
  ·exact ⟨_,[],rfl,Rd.nils,(fun z hz=>by simp at hz),by simp⟩
  ·exact ⟨_,_,rfl,Rd.sl,wu.take 4,by simp;omega⟩
  ·exact ⟨_,_,rfl,Rd.sl,wu.drop 4,by simp;omega⟩
  ·exact ⟨_,_,rfl,Rd.own ho2,(wu.take 4).append (wu.drop 7),by simp;omega⟩
  ·exact ⟨_,_,rfl,Rd.sl,wu.take 14,by simp;omega⟩
  ·exact ⟨_,_,rfl,Rd.sl,wu,by omega⟩
 have lA:([[.nils],[.sl 1 ((wh.take 4).map cB)],[.sl 1 ((wh.drop 4).map cB)],[v2],[.sl 1 ((wh.take 14).map cB)],[.sl 1 (wh.map cB)]]:List (List AV)).length=6:=rfl
 generalize ([[.nils],[.sl 1 ((wh.take 4).map cB)],[.sl 1 ((wh.drop 4).map cB)],[v2],[.sl 1 ((wh.take 14).map cB)],[.sl 1 (wh.map cB)]]:List (List AV))=A at hA lA ⊢
 have hU:=Store.sub_set u2 x (.arr 1 A) hx
 have Ux:(u2.set x (.arr 1 A)) x=some (.arr 1 A):=Store.set_same _ _ _
 have Up:(u2.set x (.arr 1 A)) p=some (.box a0.c):=hU _ _ (hu2 _ _ S1)
 have hσU:Store.sub σ (u2.set x (.arr 1 A)):=Store.sub_trans hσ1 (Store.sub_trans hu2 hU)
 generalize u2.set x (.arr 1 A)=U at hU Ux Up hσU ⊢
 refine LoopQ.inv (S:=Nat) (fun k=>[(1,.ptr p 0),(31,.os x 1 0 6),(32,.int .i64 6),(33,.int .i64 (k:Int))]) (fun _=>U) (fun k=>k≤6) (fun k=>7 - k) 0 rfl (Store.sub_refl _) (by omega) ?_
 rintro k hk
 simp only [↓vcPre,↓z0,↓reduceIte,vcPost,vcStd,Nat.reduceEqDiff,reduceCtorEq,Nat.reduceAdd,Nat.reduceLeDiff,Int.reduceLT,Int.reduceLE,↓u_setN]
 refine ⟨fun c1 => ?_,fun c1 => ?_⟩
 ·have ek:IntKind.i64.wrap ((k:Int)+1)=((k+1:Nat):Int):=by rw [zb (by unfold I64;omega)];omega
  obtain ⟨v,W,hv,hW,hWu,hWl⟩:=hA k (by omega)
  have hW:=hW.mono hU
  obtain ⟨hk6,hv⟩:=List.getElem?_eq_some_iff.1 hv
  simp only [Ux,↓vcPre,↓z0,↓reduceIte,vcPost,vcStd,Nat.reduceEqDiff,reduceCtorEq,Nat.reduceAdd,Nat.reduceLeDiff,Int.reduceLT,Int.reduceLE,↓u_setN]
  refine ⟨by omega,by omega,by simp only [Nat.zero_add,hv,List.length_cons];omega,?_⟩
  simp only [Nat.zero_add,hv]
  have lv:pv .len [v]=some (.int .i64 (W.length:Int)):=by rw [hW.2];simp
  simp only [z1j,↓vcPre,↓z0,↓reduceIte,vcPost,vcStd,Nat.reduceEqDiff,reduceCtorEq,Nat.reduceAdd,Nat.reduceLeDiff,Int.reduceLT,Int.reduceLE,↓u_setN]
  refine AllocQ.i0 fun d hd => ?_
  simp only [lv,↓vcPre,↓z0,↓reduceIte,vcPost,vcStd,Nat.reduceEqDiff,reduceCtorEq,Nat.reduceAdd,Nat.reduceLeDiff,Int.reduceLT,Int.reduceLE,↓u_setN]
  have sd:=Store.sub_set U d (.arr 1 [[.int .u8 0],[.int .u8 2],[.int .u8 8],[.int .u8 10]]) hd
  have Ud:(U.set d (.arr 1 [[.int .u8 0],[.int .u8 2],[.int .u8 8],[.int .u8 10]])) d=some (.arr 1 (([0,2,8,10]:List Int).map cB)):=Store.set_same _ _ _
  generalize U.set d (.arr 1 [[.int .u8 0],[.int .u8 2],[.int .u8 8],[.int .u8 10]])=V at sd Ud ⊢
  refine (s23 (L:=[0,2,8,10]) (Rd.os Ud) (by simp) (W.length:Int)).Q ?_
  rintro b s3 ⟨hs3,ho3⟩
  simp only [↓vcPre,↓z0,↓reduceIte,vcPost,vcStd,Nat.reduceEqDiff,reduceCtorEq,Nat.reduceAdd,Nat.reduceLeDiff,Int.reduceLT,Int.reduceLE,↓u_setN]
  refine Own.appM (τ:=V) hs3 ho3 ((hW.mono sd).1 _ hs3) (by simp;omega) fun b1 s4 hs4 ho4 => ?_
  refine AllocQ.i0 fun d2 hd2 => ?_
  simp only [↓vcPre,↓z0,↓reduceIte,vcPost,vcStd,Nat.reduceEqDiff,reduceCtorEq,Nat.reduceAdd,Nat.reduceLeDiff,Int.reduceLT,Int.reduceLE,↓u_setN]
  have sd2:=Store.sub_set s4 d2 (.arr 1 (([8,11]:List Int).map cB)) hd2
  refine Own.appM (τ:=V) (Store.sub_trans hs4 sd2) (ho4.mono sd2) (zr (Store.set_same _ _ _) rfl) (by simp;omega) fun b2 s5 hs5 ho5 => ?_
  have ho5:Own 1 V (([0,2,8,10]++[(W.length:Int) / 256 % 256,(W.length:Int) % 256]++W++[8,11]).map cB) b2 s5:=by rw [List.map_append,List.map_append];exact ho5
  have hBu:U8s ([0,2,8,10]++[(W.length:Int) / 256 % 256,(W.length:Int) % 256]++W++[8,11]):=by
   refine (((?_:U8s _).append ?_).append hWu).append ?_
   ·intro z hz;simp at hz;omega
   ·intro z hz;simp at hz;omega
   ·intro z hz;simp at hz;omega
  have hBl:([0,2,8,10]++[(W.length:Int) / 256 % 256,(W.length:Int) % 256]++W++[8,11]).length≤100:=by simp;omega
  have hB0:([0,2,8,10]++[(W.length:Int) / 256 % 256,(W.length:Int) % 256]++W++[8,11])≠[]:=by simp
  generalize [0,2,8,10]++[(W.length:Int) / 256 % 256,(W.length:Int) % 256]++W++[8,11]=B at ho5 hBu hBl hB0
  have h5:=Store.sub_trans sd hs5
  have hBr:=Rd.own ho5
  have lb:pv .len [b2]=some (.int .i64 (B.length:Int)):=by rw [hBr.2];simp
  refine LoopQ.inv (S:=Nat) (fun j=>[(1,.ptr p 0),(5,b2),(6,.int .i64 (j:Int)),(31,.os x 1 0 6),(32,.int .i64 6),(33,.int .i64 (k:Int))]) (fun _=>s5) (fun j=>j≤B.length+1) (fun j=>B.length+2 - j) 0 rfl (Store.sub_refl _) (by omega) ?_
  rintro j hj
  simp only [lb,↓vcPre,↓z0,↓reduceIte,vcPost,vcStd,Nat.reduceEqDiff,reduceCtorEq,Nat.reduceAdd,Nat.reduceLeDiff,Int.reduceLT,Int.reduceLE,↓u_setN]
  refine ⟨fun d1 => ?_,fun d1 => ?_⟩
  ·have ej:IntKind.i64.wrap ((j:Int)+1)=((j+1:Nat):Int):=by rw [zb (by unfold I64;omega)];omega
   obtain ⟨w,hw1,hw2⟩:=hBr.slice (lo:=0) (hi:=j) (by omega) (by simp;omega)
   have hw1':pSlice 1 b2 0 (some (j:Int))=some w:=hw1
   rw [List.drop_zero,←List.map_take] at hw2
   simp only [hw1',↓vcPre,↓z0,↓reduceIte,vcPost,vcStd,Nat.reduceEqDiff,reduceCtorEq,Nat.reduceAdd,Nat.reduceLeDiff,Int.reduceLT,Int.reduceLE,↓u_setN]
   refine (s20 hw2 (by simp;omega) (hBu.take j)).Q ?_
   rintro r1 s6 ⟨rfl,rfl⟩
   simp only [ej,↓vcPre,↓z0,↓reduceIte,vcPost,vcStd,Nat.reduceEqDiff,reduceCtorEq,Nat.reduceAdd,Nat.reduceLeDiff,Int.reduceLT,Int.reduceLE,↓u_setN]
   exact NextQ.to (j+1) rfl (Store.sub_refl _) (by omega) (by omega)
  ·rcases ho5 with ⟨hn,_⟩ | ⟨g,rfl,hg,hh⟩
   ·exact absurd (List.map_eq_nil_iff.1 hn) hB0
   refine AllocQ.i0 fun d3 hd3 => ?_
   simp only [↓vcPre,↓z0,↓reduceIte,vcPost,vcStd,Nat.reduceEqDiff,reduceCtorEq,Nat.reduceAdd,Nat.reduceLeDiff,Int.reduceLT,Int.reduceLE,↓u_setN]
   have sd3:=Store.sub_set s5 d3 (.arr 1 [[.int .u8 33]]) hd3
   have g3:=sd3 _ _ hh
   rw [show B.length=(B.map cB).length from (List.length_map _).symm]
   refine z7s (bytes:=1) g3 (zr (Store.set_same _ _ _) rfl) (by simp;omega) fun id s6 hid hs6 => ?_
   have hs6i:s6 id=some (.arr 1 ((B++[33]).map cB)):=by rw [hs6,Store.set_same,List.map_append];rfl
   have hsg:slc s6 1 (.os g 1 0 (B.map cB).length)=some (B.map cB):=by
    rcases hid with rfl | hid
    ·simp [slc,hs6i,List.take_of_length_le]
    ·have:¬ g=id:=fun e=>by subst e;rw [g3] at hid;cases hid
     have hg6:s6 g=some (.arr 1 (B.map cB)):=by rw [hs6,Store.set_ne _ _ this];exact g3
     exact zr hg6 rfl
   have hUid:U id=none:=by
    rcases hid with rfl | hid
    ·exact zj sd hg
    ·exact zj (Store.sub_trans h5 sd3) hid
   have h6:Store.sub U s6:=by rw [hs6];exact z8 (Store.sub_trans h5 sd3) hUid
   have hr6:Rd 1 s6 ((B++[33]).map cB) (.os id 1 0 ((B.map cB).length+1)):=by
    have:=Rd.os hs6i
    simpa using this
   refine (s20 hr6 (by simp;omega) (hBu.append (fun z hz=>by simp at hz;omega))).Q ?_
   rintro r1 s7 ⟨rfl,rfl⟩
   simp only [z20,↓vcPre,↓z0,↓reduceIte,vcPost,vcStd,Nat.reduceEqDiff,reduceCtorEq,Nat.reduceAdd,Nat.reduceLeDiff,Int.reduceLT,Int.reduceLE,↓u_setN]
   refine AllocQ.i0 fun d4 hd4 => ?_
   simp only [↓vcPre,↓z0,↓reduceIte,vcPost,vcStd,Nat.reduceEqDiff,reduceCtorEq,Nat.reduceAdd,Nat.reduceLeDiff,Int.reduceLT,Int.reduceLE,↓u_setN]
   have sd4:=Store.sub_set s7 d4 (.arr 1 [[.int .u8 0],[.int .u8 1],[.int .u8 33]]) hd4
   have hsg2:slc (s7.set d4 (.arr 1 [[.int .u8 0],[.int .u8 1],[.int .u8 33]])) 1 (.os g 1 0 B.length)=some (B.map cB):=by
    rw [List.length_map] at hsg
    exact z4w hsg sd4
   refine Own.appM (bytes:=1) (τ:=s7) sd4 (Own.new (L:=[[.int .u8 0],[.int .u8 1],[.int .u8 33]]) hd4) hsg2 (by simp;omega) fun v8 s8 hs8 ho8 => ?_
   have hr8:Rd 1 s8 ((0::1::33::B).map cB) v8:=Rd.own (by simpa [cB] using ho8)
   refine (s20 hr8 (by simp;omega) (fun z hz=>by
    simp only [List.mem_cons] at hz
    rcases hz with rfl | rfl | rfl | hz
    ·omega
    ·omega
    ·omega
    ·exact hBu z hz)).Q ?_
   rintro r2 s9 ⟨rfl,rfl⟩
   simp only [↓vcPre,↓z0,↓reduceIte,vcPost,vcStd,Nat.reduceEqDiff,reduceCtorEq,Nat.reduceAdd,Nat.reduceLeDiff,Int.reduceLT,Int.reduceLE,↓u_setN]
   rw [ek]
   exact NextQ.to (k+1) rfl (Store.sub_trans h6 hs8) (by omega) (by omega)
 ·exact zad Up _ fun t' ht'=>⟨rfl,Store.sub_trans hσU ht'⟩
end Go.Am
namespace Go.Am
open Go.Proofs
theorem zgl:Pur Tryz.prog 10 [] (.bool true):=z43
end Go.Am
