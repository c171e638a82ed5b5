/- A part of the proof: a logic for calls over plain values, and the functions that the law reaches, each walked once. -/
import Derived.Test.YtholebikgpnmlaaPG14
set_option linter.unusedVariables false
set_option linter.unusedSimpArgs false
set_option linter.unusedSectionVars false
namespace Go.Am
open Go.Proofs Go.Sort
structure Reg (ks:List KS) (hs:List At) (is:List Nat):Prop where
 len:hs.length=is.length
 us:∀ (p:Nat) (h:p<ks.length),∃ b:At,ks[p]=KS.used b ((is.count p:Nat):Int)
 lt:∀ i (h:i<is.length),is[i]<ks.length
 cn:∀ (i:Nat) (h:i<is.length) (h':i<hs.length) (b:At) (u:Int),ks[is[i]]? = some (KS.used b u)→canonA b=hs[i]
 di:∀ (p q:Nat) (b:At) (u:Int) (b':At) (u':Int),ks[p]? = some (KS.used b u)→ks[q]? = some (KS.used b' u')→canonA b=canonA b'→p=q
theorem Reg.nil:Reg [] [] []:=⟨rfl,(fun p h=>by simp at h),(fun i h=>by simp at h),(fun i h=>by simp at h),(fun p q b u b' u' h=>by simp at h)⟩
theorem Reg.same {ks:List KS} {hs:List At} {is:List Nat} (h:Reg ks hs is) {m:Nat} {b:At} {u:Int} (hm:ks[m]? = some (.used b u)) {i:Nat} (hi:i<is.length) (hi':i<hs.length):(is[i]=m)↔(hs[i]=canonA b):=by
 constructor
 ·intro e
  have:=h.cn i hi hi' b u (by rw [e];exact hm)
  exact this.symm
 ·intro e
  have hlt:=h.lt i hi
  obtain ⟨b',hb'⟩:=h.us _ hlt
  have h1:ks[is[i]]? = some (.used b' ((is.count is[i]:Nat):Int)):=by rw [List.getElem?_eq_getElem hlt,hb']
  exact h.di _ _ _ _ _ _ h1 hm (by rw [h.cn i hi hi' _ _ h1,e])
theorem z0u {ks:List KS} (h:∀ p (hp:p<ks.length),ks[p].n≠0):freeIx ks=ks.length:=by
 unfold freeIx
 have:List.findIdx? (fun k:KS=>decide (k.n=0)) ks=none:=by
  rw [List.findIdx?_eq_none_iff]
  intro x hx
  obtain ⟨i,hi,rfl⟩:=List.getElem_of_mem hx
  exact decide_eq_false (h i hi)
 rw [this]
 rfl
theorem Reg.add {B room:Int} {ks ks':List KS} {hs:List At} {is:List Nat} {a:At} {n e:Int} (h:Reg ks hs is) (hok:∀ k ∈ ks,k.ok B) (hl:(ks.length:Int)<room) (ha:AddR room ks a n e ks') :
 e=0∧∃ m:Nat,n=(m:Int)∧Reg ks' (hs++[canonA a]) (is++[m])∧usesAt ks' m=((is.count m+1:Nat):Int)∧getA ks' m=canonA a∧ks'.length≤ks.length+1∧(∃ (b:At) (u:Int),ks'[m]? = some (KS.used b u)∧canonA b=canonA a):=by
 have hn:∀ p (hp:p<ks.length),ks[p].n≠0:=fun p hp=>by
  obtain ⟨b,hb⟩:=h.us p hp
  have:=hok _ (List.getElem_mem hp)
  rw [hb] at this ⊢
  have h2:0<((is.count p:Nat):Int):=this.2.1
  show ((is.count p:Nat):Int)≠0
  omega
 rcases ha with ⟨i,hi,b,u,hb,hc,rfl,rfl,rfl⟩ | ⟨hno,hr⟩
 ·obtain ⟨b0,hb0⟩:=h.us i hi
  have hu:u=((is.count i:Nat):Int):=by rw [hb] at hb0;cases hb0;rfl
  have gi:(ks.set i (KS.used b (u+1)))[i]? = some (.used b (u+1)):=by rw [List.getElem?_set_self hi]
  have old:∀ (p:Nat) (b':At) (u':Int),(ks.set i (KS.used b (u+1)))[p]? = some (.used b' u')→∃ u2,ks[p]? = some (.used b' u2):=fun p b' u' hp=>by
   by_cases e:i=p
   ·subst e
    rw [gi] at hp;cases hp
    exact ⟨u,by rw [List.getElem?_eq_getElem hi,hb]⟩
   ·rw [List.getElem?_set_ne e] at hp;exact ⟨u',hp⟩
  refine ⟨rfl,i,rfl,⟨by simp [h.len],fun p hp => ?_,fun j hj => ?_,fun j hj hj' b' u' hq => ?_,fun p q b1 u1 b2 u2 h1 h2 h3 => ?_⟩,?_,?_,by simp,⟨b,u+1,gi,hc⟩⟩
  ·have hp':p<ks.length:=by simpa using hp
   by_cases e:i=p
   ·subst e
    refine ⟨b,?_⟩
    rw [List.getElem_set_self,List.count_append,hu]
    simp
   ·obtain ⟨b1,h1⟩:=h.us p hp'
    refine ⟨b1,?_⟩
    rw [List.getElem_set_ne e,h1,List.count_append,List.count_singleton]
    simp [e]
  ·rw [List.length_set]
   by_cases hj2:j<is.length
   ·rw [List.getElem_append_left hj2];exact h.lt j hj2
   ·rw [List.getElem_append_right (by omega)];simp;exact hi
  ·obtain ⟨u2,hq2⟩:=old _ _ _ hq
   by_cases hj2:j<is.length
   ·have hj3:j<hs.length:=by rw [h.len];exact hj2
    rw [List.getElem_append_left hj2] at hq2
    rw [List.getElem_append_left hj3]
    exact h.cn j hj2 hj3 b' u2 hq2
   ·have hjl:j=is.length:=by simp at hj;omega
    subst hjl
    rw [List.getElem_append_right (by omega)] at hq2
    rw [List.getElem_append_right (by rw [h.len];omega)]
    simp only [Nat.sub_self,List.getElem_cons_zero] at hq2
    rw [List.getElem?_eq_getElem hi,hb] at hq2
    cases hq2
    simp [h.len,hc]
  ·obtain ⟨v1,g1⟩:=old _ _ _ h1
   obtain ⟨v2,g2⟩:=old _ _ _ h2
   exact h.di p q b1 v1 b2 v2 g1 g2 h3
  ·rw [zu (by omega) (by simpa using hi)]
   simp only [Int.toNat_natCast,List.getElem_set_self,KS.n,hu]
   omega
  ·unfold getA
   rw [if_pos (by omega),Int.toNat_natCast,gi,←hc]
 ·have hff:((ks.filter fun k=>decide (k.n≠0)).length:Int)<room:=by
   have:=List.length_filter_le (fun k:KS=>decide (k.n≠0)) ks
   omega
  have hfx:=z0u hn
  rcases hr with ⟨h1,_⟩ | ⟨_,rfl,rfl,rfl⟩
  ·omega
  ·rw [hfx,if_pos rfl]
   have hcc:canonA (canonA a)=canonA a:=xa a
   have c0:is.count ks.length=0:=by
    rw [List.count_eq_zero]
    intro hm
    obtain ⟨i,hi,e⟩:=List.getElem_of_mem hm
    have:=h.lt i hi
    omega
   have gn:(ks++[KS.used (canonA a) 1])[ks.length]? = some (.used (canonA a) 1):=by simp
   have old:∀ (p:Nat) (b':At) (u':Int),(ks++[KS.used (canonA a) 1])[p]? = some (.used b' u')→(p<ks.length∧ks[p]? = some (.used b' u'))∨(p=ks.length∧b'=canonA a):=fun p b' u' hp=>by
    by_cases e:p<ks.length
    ·rw [List.getElem?_append_left e] at hp;exact .inl ⟨e,hp⟩
    ·have hpl:=(List.getElem?_eq_some_iff.1 hp).1
     have:p=ks.length:=by simp at hpl;omega
     subst this
     rw [gn] at hp;cases hp
     exact .inr ⟨rfl,rfl⟩
   refine ⟨rfl,ks.length,rfl,⟨by simp [h.len],fun p hp => ?_,fun j hj => ?_,fun j hj hj' b' u' hq => ?_,fun p q b1 u1 b2 u2 h1 h2 h3 => ?_⟩,?_,?_,by simp,⟨_,_,gn,hcc⟩⟩
   ·by_cases e:p<ks.length
    ·obtain ⟨b1,h1⟩:=h.us p e
     refine ⟨b1,?_⟩
     rw [List.getElem_append_left e,h1,List.count_append,List.count_singleton]
     have:¬ ks.length=p:=by omega
     simp [this]
    ·have:p=ks.length:=by simp at hp;omega
     subst this
     refine ⟨canonA a,?_⟩
     rw [List.getElem_append_right (by omega),List.count_append,c0]
     simp
   ·rw [List.length_append]
    by_cases hj2:j<is.length
    ·rw [List.getElem_append_left hj2];have:=h.lt j hj2;omega
    ·rw [List.getElem_append_right (by omega)];simp
   ·by_cases hj2:j<is.length
    ·have hj3:j<hs.length:=by rw [h.len];exact hj2
     rw [List.getElem_append_left hj2] at hq
     rw [List.getElem_append_left hj3]
     have hl2:=h.lt j hj2
     rw [List.getElem?_append_left hl2] at hq
     exact h.cn j hj2 hj3 b' u' hq
    ·have hjl:j=is.length:=by simp at hj;omega
     subst hjl
     rw [List.getElem_append_right (by omega)] at hq
     rw [List.getElem_append_right (by rw [h.len];omega)]
     simp only [Nat.sub_self,List.getElem_cons_zero] at hq
     rw [gn] at hq
     cases hq
     simp [h.len,hcc]
   ·rcases old _ _ _ h1 with ⟨p1,g1⟩ | ⟨p1,rfl⟩ <;> rcases old _ _ _ h2 with ⟨p2,g2⟩ | ⟨p2,rfl⟩
    ·exact h.di p q b1 u1 b2 u2 g1 g2 h3
    ·rw [hcc] at h3
     exact absurd h3 (hno b1 u1 (List.mem_of_getElem? g1))
    ·rw [hcc] at h3
     exact absurd h3.symm (hno b2 u2 (List.mem_of_getElem? g2))
    ·rw [p1,p2]
   ·rw [zu (by omega) (by simp),c0]
    simp [KS.n]
   ·unfold getA
    rw [if_pos (by omega),Int.toNat_natCast,gn]
    exact hcc
end Go.Am
namespace Go.Am
open Go.Proofs Go.Sort
def nAt (n:Int):At:={ zeroAt with nxt:=n }
def nCl (n:Int):List AV:=[.int .i64 0,.nils,.int .u32 n,.bool false,.int .u32 0,.bool false,.int .u32 0,.bool false,.nils]
theorem z7i (n:Int):(nAt n).ok:=⟨by simp [nAt,zeroAt],by simp [nAt,zeroAt],by simp [nAt,zeroAt]⟩
theorem z2l (n:Int):canonA (nAt n)=nAt n:=by
 simp [canonA,nAt,zeroAt,canonC,ddA]
theorem z44 {n:Int} {σ:Store} {Q:AV→Store→Prop} (h:Q (.agg (nAt n).c) σ):Weak (.agg (nCl n)) σ Q:=by
 refine Weak.agg (WeakL.nil 1 2 rfl (WeakL.nil 8 1 rfl (WeakL.pure ⟨?_,h⟩)))
 intro c hc
 simp [nCl] at hc
 rcases hc with rfl | rfl | rfl | rfl | rfl | rfl | rfl | rfl | rfl <;> rfl
theorem z7o {B:Int} (hB0:1≤B) (hB:B≤100000000) {τ s:Store} {id:Nat} {room:Int} {ks:List KS} (h:TI B τ id room ks s) (hks:ks.length<1000000) (n:Int) :
 ACalls Try.prog 15 [.ptr id 0,.agg (nCl n)] s (fun r s'=>∃ m e ks',r = .tup [.int .i64 m,.int .i64 e]∧AddR room ks (nAt n) m e ks'∧TI (B+1) τ id room ks' s'):=by
 have h1:=s15 hB0 hB h hks (nAt n) (z7i n)
 exact ACalls.weakArgs h1.1 (WeakL.pos 1 rfl (z44 (WeakL.pure h1)))
theorem z7m {room:Int} (h:1≤room∧room≤4096) (σ:Store) (B:Int):ACalls Try.prog 12 [.int .i64 room] σ (fun r s=>∃ id,r = .tup [.ptr id 0,.int .i64 0]∧TI B σ id room [] s) :=
 (s12 room σ B).mono fun r s h1=>by rw [if_pos h] at h1;exact h1
theorem AddR.one {n e:Int} {ks:List KS} (h:AddR 4 [] (nAt 5) n e ks):n=0∧e=0∧ks=[.used (nAt 5) 1]:=by
 rcases h with ⟨i,hi,_⟩ | ⟨_,⟨h1,_⟩ | ⟨_,h2,h3,h4⟩⟩
 ·simp at hi
 ·simp at h1
 ·refine ⟨by rw [h2];rfl,h3,by rw [h4,z2l];rfl⟩
theorem AddR.two {n e:Int} {ks:List KS} (h:AddR 4 [.used (nAt 5) 1] (nAt 5) n e ks):n=0∧e=0∧ks=[.used (nAt 5) 2]:=by
 rcases h with ⟨i,hi,b,u,hb,_,h1,h2,h3⟩ | ⟨hno,_⟩
 ·have:i=0:=by simp at hi;exact hi
  subst this
  simp only [List.getElem_cons_zero,KS.used.injEq] at hb
  obtain ⟨rfl,rfl⟩:=hb
  exact ⟨h1,h2,by rw [h3];rfl⟩
 ·exact absurd rfl (hno (nAt 5) 1 (by simp))
theorem c22:Pur Try.prog 22 [] (.bool true):=by
 refine zo Tst.F22 (by simp [Tst.F22,Fn.mkX]) fun σ => ?_
 simp only [Tst.F22,Fn.mkX,Tst.b22]
 simp only [↓vcPre,↓z0,↓reduceIte,vcPost,vcStd,Nat.reduceEqDiff,reduceCtorEq,Nat.reduceAdd,Nat.reduceLeDiff,Int.reduceLT,Int.reduceLE,↓u_setN]
 refine (z7m (by omega) σ 1).Q ?_
 rintro r s ⟨id,rfl,h⟩
 simp only [↓vcPre,↓z0,↓reduceIte,vcPost,vcStd,Nat.reduceEqDiff,reduceCtorEq,Nat.reduceAdd,Nat.reduceLeDiff,Int.reduceLT,Int.reduceLE,↓u_setN]
 refine (z7o (by omega) (by omega) h (by simp) 5).Q ?_
 rintro r s1 ⟨n1,e1,k1,rfl,a1,h1⟩
 obtain ⟨rfl,rfl,rfl⟩:=a1.one
 simp only [↓vcPre,↓z0,↓reduceIte,vcPost,vcStd,Nat.reduceEqDiff,reduceCtorEq,Nat.reduceAdd,Nat.reduceLeDiff,Int.reduceLT,Int.reduceLE,↓u_setN]
 refine (z7o (by omega) (by omega) h1 (by simp) 5).Q ?_
 rintro r s2 ⟨n2,e2,k2,rfl,a2,h2⟩
 obtain ⟨rfl,rfl,rfl⟩:=a2.two
 simp only [↓vcPre,↓z0,↓reduceIte,vcPost,vcStd,Nat.reduceEqDiff,reduceCtorEq,Nat.reduceAdd,Nat.reduceLeDiff,Int.reduceLT,Int.reduceLE,↓u_setN]
 refine (s20 (by omega) h2 0).Q ?_
 rintro r s3 ⟨rfl,h3⟩
 have ku:usesAt [KS.used (nAt 5) 2] 0=2:=rfl
 have kd:dropK [KS.used (nAt 5) 2] 0=[KS.used (nAt 5) 1]:=rfl
 rw [kd] at h3
 rw [ku,if_pos (by omega)]
 simp only [↓vcPre,↓z0,↓reduceIte,vcPost,vcStd,Nat.reduceEqDiff,reduceCtorEq,Nat.reduceAdd,Nat.reduceLeDiff,Int.reduceLT,Int.reduceLE,↓u_setN]
 refine (s19 h3 0).Q ?_
 rintro r s4 ⟨rfl,rfl⟩
 have ku1:usesAt [KS.used (nAt 5) 1] 0=1:=rfl
 rw [ku1]
 simp only [↓vcPre,↓z0,↓reduceIte,vcPost,vcStd,Nat.reduceEqDiff,reduceCtorEq,Nat.reduceAdd,Nat.reduceLeDiff,Int.reduceLT,Int.reduceLE,↓u_setN]
 refine (s21 h3).Q ?_
 rintro r s5 ⟨rfl,rfl⟩
 have kl:(List.filter (fun k:KS=>decide (k.n≠0)) [KS.used (nAt 5) 1]).length=1:=rfl
 rw [kl]
 simp only [↓vcPre,↓z0,↓reduceIte,vcPost,vcStd,Nat.reduceEqDiff,reduceCtorEq,Nat.reduceAdd,Nat.reduceLeDiff,Int.reduceLT,Int.reduceLE,↓u_setN]
 exact ⟨rfl,h3.2.1⟩
structure Left (ks:List KS) (l:List Nat):Prop where
 us:∀ (p:Nat) (h:p<ks.length),ks[p].n=((l.count p:Nat):Int)
 lt:∀ m ∈ l,m<ks.length
theorem Reg.left {ks:List KS} {hs:List At} {is:List Nat} (h:Reg ks hs is):Left ks is:=by
 refine ⟨fun p hp => ?_,fun m hm => ?_⟩
 ·obtain ⟨b,hb⟩:=h.us p hp
  rw [hb];rfl
 ·obtain ⟨i,hi,rfl⟩:=List.getElem_of_mem hm
  exact h.lt i hi
theorem Left.drop {ks:List KS} {m:Nat} {l:List Nat} (h:Left ks (m::l)):0<usesAt ks m∧Left (dropK ks m) l:=by
 have hm:=h.lt m (by simp)
 have hu:=h.us m hm
 rw [List.count_cons_self] at hu
 refine ⟨by rw [zu (by omega) (by simpa using hm)];simp only [Int.toNat_natCast];omega,?_⟩
 unfold dropK
 rw [if_pos (by omega),Int.toNat_natCast,List.getElem?_eq_getElem hm]
 cases hk:ks[m] with
 | free z=>rw [hk] at hu;simp only [KS.n] at hu;omega
 | used a u =>
   simp only
   rw [hk] at hu
   simp only [KS.n] at hu
   refine ⟨fun p hp => ?_,fun q hq=>by rw [List.length_set];exact h.lt q (by simp [hq])⟩
   by_cases e:m=p
   ·subst e
    rw [List.getElem_set_self]
    split
    ·simp only [KS.n];omega
    ·simp only [KS.n];omega
   ·have hp':p<ks.length:=by simpa using hp
    rw [List.getElem_set_ne e,h.us p hp',List.count_cons]
    simp [e]
theorem Left.nil {ks:List KS} (h:Left ks []):(ks.filter fun k=>decide (k.n≠0)).length=0:=by
 rw [List.length_eq_zero_iff,List.filter_eq_nil_iff]
 intro k hk
 obtain ⟨i,hi,rfl⟩:=List.getElem_of_mem hk
 rw [h.us i hi]
 simp
end Go.Am
namespace Go.Am
open Go.Proofs Go.Sort
theorem Own.keepE {e1 e2:Nat} {τ s s':Store} {L:List (List AV)} {v:AV} (h:Own e1 τ L v s) (hne:e1≠e2) (hk:∀ q o,s q=some o→(∀ M,o ≠ .arr e2 M)→s' q=some o):Own e1 τ L v s':=by
 rcases h with h | ⟨g,h1,h2,h3⟩
 ·exact .inl h
 ·exact .inr ⟨g,h1,h2,hk _ _ h3 fun M e=>by cases e;exact hne rfl⟩
theorem TI.mono {B:Int} {τ s s':Store} {id:Nat} {room:Int} {ks:List KS} (h:TI B τ id room ks s) (hs:Store.sub s s'):TI B τ id room ks s':=by
 obtain ⟨h1,h2,h3,h4,v,h5,h6⟩:=h
 exact ⟨h1,Store.sub_trans h2 hs,h3,h4,v,hs _ _ h5,h6.mono hs⟩
theorem TI.keepE {B:Int} {τ s s':Store} {id:Nat} {room:Int} {ks:List KS} {e2:Nat} (h:TI B τ id room ks s) (hne:10≠e2) (hs:Store.sub τ s') (hk:∀ q o,s q=some o→(∀ M,o ≠ .arr e2 M)→s' q=some o):TI B τ id room ks s':=by
 obtain ⟨h1,h2,h3,h4,v,h5,h6⟩:=h
 exact ⟨h1,hs,h3,h4,v,hk _ _ h5 (fun M e=>by cases e),h6.keepE hne hk⟩
theorem TI.low {B:Int} {τ τ' s:Store} {id:Nat} {room:Int} {ks:List KS} (h:TI B τ' id room ks s) (hτ:Store.sub τ τ'):TI B τ id room ks s:=by
 obtain ⟨h1,h2,h3,h4,v,h5,h6⟩:=h
 exact ⟨zi hτ h1,Store.sub_trans hτ h2,h3,h4,v,h5,h6.weak hτ⟩
theorem TI.split {B:Int} {τ s:Store} {id:Nat} {room:Int} {ks:List KS} (h:TI B τ id room ks s):∃ τ',Store.sub τ τ'∧Store.sub τ' s∧TI B τ' id room ks s∧∀ q o,s q=some o→¬ q=id→(∀ M,o ≠ .arr 10 M)→τ' q=some o:=by
 obtain ⟨h1,h2,h3,h4,v,h5,h6⟩:=h
 rcases h6 with ⟨hk,hv⟩ | ⟨g,hv,hg,hs⟩
 ·refine ⟨s.del id,sub_del h2 h1,fun q o hq => ?_,⟨by simp,fun q o hq => ?_,h3,h4,v,h5,.inl ⟨hk,hv⟩⟩,fun q o hq hn _ => ?_⟩
  ·by_cases e:q=id
   ·subst e;simp at hq
   ·rw [Store.del_ne _ e] at hq;exact hq
  ·by_cases e:q=id
   ·subst e;simp at hq
   ·rw [Store.del_ne _ e] at hq;exact hq
  ·rw [Store.del_ne _ hn];exact hq
 ·have hgi:¬ id=g:=fun e=>by subst e;rw [hs] at h5;cases h5
  have hsub:Store.sub ((s.del id).del g) s:=fun q o hq=>by
   by_cases e:q=g
   ·subst e;simp at hq
   ·rw [Store.del_ne _ e] at hq
    by_cases e2:q=id
    ·subst e2;simp at hq
    ·rw [Store.del_ne _ e2] at hq;exact hq
  refine ⟨(s.del id).del g,sub_del (sub_del h2 h1) hg,hsub,⟨by rw [Store.del_ne _ hgi];simp,hsub,h3,h4,v,h5,.inr ⟨g,hv,by simp,hs⟩⟩,fun q o hq hn hm => ?_⟩
  have e:¬ q=g:=fun e=>by subst e;rw [hs] at hq;cases hq;exact hm _ rfl
  rw [Store.del_ne _ e,Store.del_ne _ hn];exact hq
def cNat (m:Nat):List AV:=[.int .i64 (m:Int)]
structure Hv (B:Int) (σ:Store) (id:Nat) (ks:List KS) (hs:List At) (is:List Nat) (v5 v6:AV) (s:Store):Prop where
 ti:TI B σ id 64 ks s
 o5:Own 9 σ (hs.map At.c) v5 s
 o6:Own 1 σ (is.map cNat) v6 s
section
variable {B:Int} {σ s s':Store} {id:Nat} {ks ks':List KS} {hs:List At} {is:List Nat} {v5 v6:AV}
theorem Hv.sub (h:Hv B σ id ks hs is v5 v6 s):Store.sub σ s:=h.ti.2.1
theorem Hv.mono (h:Hv B σ id ks hs is v5 v6 s) (hs':Store.sub s s'):Hv B σ id ks hs is v5 v6 s':=⟨h.ti.mono hs',h.o5.mono hs',h.o6.mono hs'⟩
theorem Hv.arr {g:Nat} {M M':List (List AV)} (h:Hv B σ id ks hs is v5 v6 s) (hg:s g=some (.arr 1 M)) (hσ:σ g=none) (h6:∀ n,v6 ≠ .os g 1 0 n):Hv B σ id ks hs is v5 v6 (s.set g (.arr 1 M')):=by
 obtain ⟨⟨h1,h2,h3,h4,v,h5,h6'⟩,o5,o6⟩:=h
 have gi:¬ id=g:=fun e=>by subst e;rw [h5] at hg;cases hg
 refine ⟨⟨h1,zb h2 hσ,h3,h4,v,by rw [Store.set_ne _ _ gi];exact h5,h6'.setId hg (fun M e=>by cases e)⟩,o5.setId hg (fun M e=>by cases e),?_⟩
 rcases o6 with h | ⟨g6,q1,q2,q3⟩
 ·exact .inl h
 ·have:¬ g6=g:=fun e=>h6 _ (by rw [q1,e])
  exact .inr ⟨g6,q1,q2,by rw [Store.set_ne _ _ this];exact q3⟩
theorem Hv.tab (h:Hv B σ id ks hs is v5 v6 s):∃ τ,Store.sub τ s∧TI B τ id 64 ks s∧(∀ q o,s q=some o→¬ q=id→(∀ M,o ≠ .arr 10 M)→τ q=some o)∧∀ B' ks' s',TI B' τ id 64 ks' s'→Hv B' σ id ks' hs is v5 v6 s':=by
 obtain ⟨τ,t1,t2,t3,t4⟩:=h.ti.split
 refine ⟨τ,t2,t3,t4,fun B' ks' s' hT=>⟨hT.low t1,?_,?_⟩⟩
 ·rcases h.o5 with h | ⟨g,q1,q2,q3⟩
  ·exact .inl h
  ·have gi:¬ g=id:=fun e=>by subst e;obtain ⟨_,_,_,_,v,h5,_⟩:=h.ti;rw [h5] at q3;cases q3
   exact .inr ⟨g,q1,q2,hT.2.1 _ _ (t4 _ _ q3 gi fun M e=>by cases e)⟩
 ·rcases h.o6 with h | ⟨g,q1,q2,q3⟩
  ·exact .inl h
  ·have gi:¬ g=id:=fun e=>by subst e;obtain ⟨_,_,_,_,v,h5,_⟩:=h.ti;rw [h5] at q3;cases q3
   exact .inr ⟨g,q1,q2,hT.2.1 _ _ (t4 _ _ q3 gi fun M e=>by cases e)⟩
theorem Hv.not6 (h:Hv B σ id ks hs is v5 v6 s) {g:Nat} (hg:s g=none):∀ n,v6 ≠ .os g 1 0 n:=fun n e=>by
 rcases h.o6 with ⟨_,h⟩ | ⟨g6,q1,q2,q3⟩
 ·rw [h] at e;cases e
 ·rw [q1] at e;cases e;rw [hg] at q3;cases q3
theorem Hv.nid (h:Hv B σ id ks hs is v5 v6 s) {p:Nat} (hp:s p=none):¬ p=id:=fun e=>by
 subst e;obtain ⟨_,_,_,_,v,h5,_⟩:=h.ti;rw [h5] at hp;cases hp
end
end Go.Am
namespace Go.Am
open Go.Proofs Go.Sort
structure Ask where
 kind:Int
 id:Int
 a:At
 few:Bool
def Ask.c (x:Ask):List AV:=[.int .i64 x.kind,.int .i64 x.id]++(x.a.c++[.bool x.few])
def fewA (a:At):At:={ zeroAt with org:=Int.tmod a.org 3,nxt:=Int.tmod a.nxt 3,cms:=a.cms.take 34 }
def attrsA (x:Ask):At:=if x.few then fewA x.a else shortA x.a
theorem c14 (x:Ask):Pur Try.prog 14 [.agg x.c] (.agg (attrsA x).c):=by
 intro σ
 refine zj Tst.F14 (by simp [Tst.F14,Fn.mkX]) ?_
 simp only [Tst.F14,Fn.mkX,Tst.b14]
 simp only [Ask.c,At.c,↓vcPre,↓z0,↓reduceIte,vcPost,vcStd,Nat.reduceEqDiff,reduceCtorEq,Nat.reduceAdd,Nat.reduceLeDiff,Int.reduceLT,Int.reduceLE,↓u_setN]
 refine AllocQ.i0 fun i hi => ?_
 simp only [At.c,↓vcPre,↓z0,↓reduceIte,vcPost,vcStd,Nat.reduceEqDiff,reduceCtorEq,Nat.reduceAdd,Nat.reduceLeDiff,Int.reduceLT,Int.reduceLE,↓u_setN]
 refine AllocQ.i1 fun j hj1 hj2 hj => ?_
 simp only [hj1,hj2,↓vcPre,↓z0,↓reduceIte,vcPost,vcStd,Nat.reduceEqDiff,reduceCtorEq,Nat.reduceAdd,Nat.reduceLeDiff,Int.reduceLT,Int.reduceLE,↓u_setN]
 have e12:∀ y:At,[AV.int IntKind.i64 y.org,AV.sl 2 (List.map Seg.c y.path),AV.int IntKind.u32 y.nxt,AV.bool y.hm,AV.int IntKind.u32 y.med,AV.bool y.hp,AV.int IntKind.u32 y.prf,AV.bool y.atm,AV.sl 1 (List.map cU y.cms)]=y.c:=fun _=>rfl
 cases hf:x.few with
 | false =>
   simp only [↓vcPre,↓z0,↓reduceIte,vcPost,vcStd,Nat.reduceEqDiff,reduceCtorEq,Nat.reduceAdd,Nat.reduceLeDiff,Int.reduceLT,Int.reduceLE,↓u_setN]
   simp only [e12]
   refine (c36 _).Q ?_
   simp only [hj1,hj2,↓vcPre,↓z0,↓reduceIte,vcPost,vcStd,Nat.reduceEqDiff,reduceCtorEq,Nat.reduceAdd,Nat.reduceLeDiff,Int.reduceLT,Int.reduceLE,↓u_setN]
   refine ⟨rfl,?_⟩
   have p9:∀ z:List AV,z.length=9→splice 0 (shortA x.a).c z=some (shortA x.a).c:=fun z hz=>zl _ _ (by rw [hz];rfl)
   rw [p9 _ rfl,zk,Store.set_set]
   refine EndQ.to σ (.agg (shortA x.a).c) ?_ (zm hi hj hj1) ⟨rfl,by simp [attrsA,hf]⟩
   show Env.res [(2,AV.ptr j 0)] _ [RS.c 2 9 true]=_
   have e9:∀ x:At,x.c.length=9:=fun _=>rfl
   have t9:∀ x:At,List.take 9 x.c=x.c:=fun _=>rfl
   simp only [e9,t9,Nat.le_refl,↓vcPre,↓z0,↓reduceIte,vcPost,vcStd,Nat.reduceEqDiff,reduceCtorEq,Nat.reduceAdd,Nat.reduceLeDiff,Int.reduceLT,Int.reduceLE,↓u_setN]
 | true =>
   simp only [↓vcPre,↓z0,↓reduceIte,vcPost,vcStd,Nat.reduceEqDiff,reduceCtorEq,Nat.reduceAdd,Nat.reduceLeDiff,Int.reduceLT,Int.reduceLE,↓u_setN]
   simp only [e12]
   refine ⟨by omega,by omega,(c36 _).Q ?_⟩
   simp only [hj1,hj2,At.c,↓vcPre,↓z0,↓reduceIte,vcPost,vcStd,Nat.reduceEqDiff,reduceCtorEq,Nat.reduceAdd,Nat.reduceLeDiff,Int.reduceLT,Int.reduceLE,↓u_setN]
   rw [Store.set_set]
   have hw:∀ Y:Obj,Y = .box [.int .i64 (Int.tmod x.a.org 3),.nils,.int .u32 (Int.tmod x.a.nxt 3),.bool false,.int .u32 0,.bool false,.int .u32 0,.bool false,.sl 1 ((x.a.cms.take 34).map cU)]→∀ X:Obj,@EndQ [(2,AV.ptr j 0)] ((σ.set i X).set j Y) ⟨Tst.F14.slots,fun r s=>s=σ∧r = .agg (attrsA x).c⟩:=by
    rintro Y rfl X
    unfold EndQ
    refine ⟨.agg [.int .i64 (Int.tmod x.a.org 3),.nils,.int .u32 (Int.tmod x.a.nxt 3),.bool false,.int .u32 0,.bool false,.int .u32 0,.bool false,.sl 1 ((x.a.cms.take 34).map cU)],?_,Weak.agg (WeakL.nil 1 2 rfl (WeakL.forget (zm hi hj hj1) (WeakL.pure ⟨?_,rfl,by rw [attrsA,hf];rfl⟩)))⟩
    ·show Env.res [(2,AV.ptr j 0)] _ [RS.c 2 9 true]=_
     simp only [↓vcPre,↓z0,↓reduceIte,vcPost,vcStd,Nat.reduceEqDiff,reduceCtorEq,Nat.reduceAdd,Nat.reduceLeDiff,Int.reduceLT,Int.reduceLE,↓u_setN]
    ·intro c hc
     simp at hc
     rcases hc with rfl | rfl | rfl | rfl | rfl | rfl | rfl | rfl | rfl <;> rfl
   exact hw _ rfl _
end Go.Am
namespace Go.Am
open Go.Proofs Go.Sort
set_option maxHeartbeats 4000000 in
set_option maxRecDepth 20000 in
theorem z5g (l:List Ask) (hl:Small l):Pur Try.prog 3 [.sl 12 (l.map Ask.c)] (.bool true):=by
 refine zo Tst.F3 (by simp [Tst.F3,Fn.mkX]) fun σ => ?_
 simp only [Tst.F3,Fn.mkX,Tst.b3,z75]
 have hll:((l.map Ask.c).length:Int)=(l.length:Int):=by rw [List.length_map]
 simp only [↓vcPre,↓z0,↓reduceIte,vcPost,vcStd,Nat.reduceEqDiff,reduceCtorEq,Nat.reduceAdd,Nat.reduceLeDiff,Int.reduceLT,Int.reduceLE,↓u_setN]
 refine (z7m (by omega) σ 1).Q ?_
 rintro r s0 ⟨id,rfl,h0⟩
 simp only [↓vcPre,↓z0,↓reduceIte,vcPost,vcStd,Nat.reduceEqDiff,reduceCtorEq,Nat.reduceAdd,Nat.reduceLeDiff,Int.reduceLT,Int.reduceLE,↓u_setN]
 refine LoopQ.inv (S:=Nat×List KS×List At×List Nat×AV×AV×Store) (fun q=>[(0,.sl 12 (l.map Ask.c)),(3,.ptr id 0),(5,q.2.2.2.2.1),(6,q.2.2.2.2.2.1),(7,.int .i64 (q.1:Int))]) (fun q=>q.2.2.2.2.2.2)
  (fun q=>q.1≤l.length∧q.1≤30∧Hv (1+q.1) σ id q.2.1 q.2.2.1 q.2.2.2.1 q.2.2.2.2.1 q.2.2.2.2.2.1 q.2.2.2.2.2.2∧Reg q.2.1 q.2.2.1 q.2.2.2.1∧q.2.2.1.length=q.1∧q.2.1.length≤q.1∧∀ a ∈ q.2.2.1,a.ok∧canonA a=a)
  (fun q=>l.length+1 - q.1) (0,[],[],[],.nils,.nils,s0) rfl (Store.sub_refl _) ⟨Nat.zero_le _,Nat.zero_le _,⟨h0,Own.nil,Own.nil⟩,Reg.nil,rfl,Nat.le_refl _,fun a h=>by simp at h⟩ ?_
 clear h0
 rintro ⟨i,ks,hs,is,v5,v6,s⟩ ⟨hi,hi30,hv,hr,hsl,hkl,hcs⟩
 simp only at hi hi30 hv hr hsl hkl hcs
 simp only [List.length_map,↓vcPre,↓z0,↓reduceIte,vcPost,vcStd,Nat.reduceEqDiff,reduceCtorEq,Nat.reduceAdd,Nat.reduceLeDiff,Int.reduceLT,Int.reduceLE,↓u_setN]
 refine ⟨fun c1=>⟨fun c30 => ?_,fun c30 => ?_⟩,fun c1 => ?_⟩
 ·have hi':i<l.length:=by omega
  have e12:∀ x:Ask,x.c.length=12:=fun _=>rfl
  have t12:∀ x:Ask,List.take 12 x.c=x.c:=fun _=>rfl
  have f11:∀ x:Ask,splice 11 [.bool true] x.c=some ({ x with few:=true }:Ask).c:=fun _=>rfl
  have z12:∀ x:Ask,splice 0 x.c [AV.int .i64 0,.int .i64 0,.int .i64 0,.nils,.int .u32 0,.bool false,.int .u32 0,.bool false,.int .u32 0,.bool false,.nils,.bool false]=some x.c:=fun _=>rfl
  have e9:∀ y:At,y.c.length=9:=fun _=>rfl
  have t9:∀ y:At,List.take 9 y.c=y.c:=fun _=>rfl
  have hz:∀ y:At,splice 0 y.c zCells=some y.c:=fun _=>rfl
  have o9:∀ (x:At) u,(x.cO u).length=9:=fun _ _=>rfl
  have u9:∀ (x:At) u,List.take 9 (x.cO u)=x.cO u:=fun _ _=>rfl
  have z9:∀ (x:At) u,splice 0 (x.cO u) zCells=some (x.cO u):=fun _ _=>rfl
  have f8:∀ (x:At) u,List.take 1 (List.drop 8 (x.cO u))=[u]:=fun _ _=>rfl
  refine ⟨by simpa using hi',by rw [e12];omega,AllocQ.i0 fun p8 h8 => ?_⟩
  generalize l[i]=x0
  simp only [e12,t12,z12,f11,↓vcPre,↓z0,↓reduceIte,vcPost,vcStd,Nat.reduceEqDiff,reduceCtorEq,Nat.reduceAdd,Nat.reduceLeDiff,Int.reduceLT,Int.reduceLE,↓u_setN]
  refine (c14 _).Q ?_
  simp only [↓vcPre,↓z0,↓reduceIte,vcPost,vcStd,Nat.reduceEqDiff,reduceCtorEq,Nat.reduceAdd,Nat.reduceLeDiff,Int.reduceLT,Int.reduceLE,↓u_setN]
  generalize hA:attrsA { x0 with few:=true }=A
  have hAo:A.ok:=by
   rw [←hA]
   refine ⟨by simp [attrsA,fewA,zeroAt],(fun s hs=>by simp [attrsA,fewA,zeroAt] at hs),by simp [attrsA,fewA];omega⟩
  clear hA
  simp only [Store.set_set]
  have sT:=Store.sub_set s p8 (.box ({ x0 with few:=true }:Ask).c) h8
  generalize s.set p8 (.box ({ x0 with few:=true }:Ask).c)=T at sT ⊢
  have hvT:=hv.mono sT
  clear hv sT h8
  have hrc:=z7n A hAo (σ:=T) (cv := .sl 1 (A.cms.map cU)) Rd.sl (Q:=fun r s=>∃ v,r = .agg ((canonA A).cO v)∧Store.sub T s∧Own 1 T ((canonC A.cms).map cU) v s) fun v s' h1 h2=>Weak.pure ⟨v,rfl,h1,h2⟩
  refine hrc.Q ?_
  clear hrc
  rintro r s1 ⟨v,rfl,q1,q2⟩
  have hKc:canonA (canonA A)=canonA A:=xa A
  have hKo:(canonA A).ok:=y9 hAo
  have hKcm:(canonA A).cms=canonC A.cms:=rfl
  rw [←hKcm] at q2
  generalize canonA A=K at hKc hKo q2 ⊢
  clear hKcm hAo
  have hv1:=hvT.mono q1
  simp only [o9,↓vcPre,↓z0,↓reduceIte,vcPost,vcStd,Nat.reduceEqDiff,reduceCtorEq,Nat.reduceAdd,Nat.reduceLeDiff,Int.reduceLT,Int.reduceLE,↓u_setN]
  refine AllocQ.i0 fun p9 h9 => ?_
  simp only [o9,z9,↓vcPre,↓z0,↓reduceIte,vcPost,vcStd,Nat.reduceEqDiff,reduceCtorEq,Nat.reduceAdd,Nat.reduceLeDiff,Int.reduceLT,Int.reduceLE,↓u_setN]
  have sV:Store.sub s1 ((s1.set p9 (.box zCells)).set p9 (.box (K.cO v))):=zb (Store.sub_set _ _ _ h9) h9
  have V9:=Store.set_same (s1.set p9 (.box zCells)) p9 (.box (K.cO v))
  generalize (s1.set p9 (.box zCells)).set p9 (.box (K.cO v))=V at sV V9 ⊢
  have hvV:=hv1.mono sV
  have q2V:=q2.mono sV
  have sTV:=Store.sub_trans q1 sV
  have hT9:=zi q1 h9
  have hσ9:=zi hvT.sub hT9
  have n9:=hv1.nid h9
  clear q1 q2 sV hv1 h9 s1
  simp only [V9,o9,u9,↓vcPre,↓z0,↓reduceIte,vcPost,vcStd,Nat.reduceEqDiff,reduceCtorEq,Nat.reduceAdd,Nat.reduceLeDiff,Int.reduceLT,Int.reduceLE,↓u_setN]
  refine (zb2 K hKo V (Rd.own q2V)).Q ?_
  rw [hKc]
  rintro r V ⟨rfl,rfl⟩
  simp only [e9,↓vcPre,↓z0,↓reduceIte,vcPost,vcStd,Nat.reduceEqDiff,reduceCtorEq,Nat.reduceAdd,Nat.reduceLeDiff,Int.reduceLT,Int.reduceLE,↓u_setN]
  refine AllocQ.i0 fun p10 h10 => ?_
  have n910:¬ p9=p10:=fun e=>by subst e;rw [V9] at h10;cases h10
  simp only [e9,hz,n910,V9,o9,u9,↓vcPre,↓z0,↓reduceIte,vcPost,vcStd,Nat.reduceEqDiff,reduceCtorEq,Nat.reduceAdd,Nat.reduceLeDiff,Int.reduceLT,Int.reduceLE,↓u_setN]
  have sW:Store.sub V ((V.set p10 (.box zCells)).set p10 (.box K.c)):=zb (Store.sub_set _ _ _ h10) h10
  have W10:=Store.set_same (V.set p10 (.box zCells)) p10 (.box K.c)
  generalize (V.set p10 (.box zCells)).set p10 (.box K.c)=W at sW W10 ⊢
  have W9:=sW _ _ V9
  have hvW:=hvV.mono sW
  have q2W:=q2V.mono sW
  have sTW:=Store.sub_trans sTV sW
  have hT10:=zi sTV h10
  have hσ10:=zi hvT.sub hT10
  have n10:=hvV.nid h10
  clear sW V9 hvV q2V sTV h10 V
  obtain ⟨τ,t1,t2,t3,t4⟩:=hvW.tab
  refine (zbg (B:=1+i) (by omega) (by omega) t2 (by omega) K hKo (Rd.own q2W)).Q ?_
  rintro r s4 ⟨n,er,ks',rfl,had,hti⟩
  obtain ⟨rfl,m,rfl,hr',hus,hga,hkl',hmu⟩:=hr.add (B:=1+i) t2.2.2.1 (by omega) had
  rw [hKc] at hr' hga hmu
  have hv4:=t4 _ _ _ hti
  have up4:∀ q o,W q=some o→¬ q=id→(∀ M,o ≠ .arr 10 M)→s4 q=some o:=fun q o h1 h2 h3=>hti.2.1 _ _ (t3 q o h1 h2 h3)
  have q9:=up4 _ _ W9 n9 (fun M e=>by cases e)
  have q10:=up4 _ _ W10 n10 (fun M e=>by cases e)
  have q2':Own 1 T (K.cms.map cU) v s4:=by
   rcases q2W with h | ⟨ga,h1,h2,h3⟩
   ·exact .inl h
   ·have gi:¬ ga=id:=fun e=>by subst e;obtain ⟨_,_,_,_,vv,h5,_⟩:=hvW.ti;rw [h5] at h3;cases h3
    exact .inr ⟨ga,h1,h2,up4 _ _ h3 gi fun M e=>by cases e⟩
  have hkl2:ks'.length≤i+1:=by omega
  clear t1 t2 t3 t4 hti had up4 q2W W9 W10 hvW sTW hr hkl
  simp only [↓vcPre,↓z0,↓reduceIte,vcPost,vcStd,Nat.reduceEqDiff,reduceCtorEq,Nat.reduceAdd,Nat.reduceLeDiff,Int.reduceLT,Int.reduceLE,↓u_setN]
  refine LoopQ.inv (S:=Nat×Store) (fun q=>[(0,.sl 12 (l.map Ask.c)),(3,.ptr id 0),(5,v5),(6,v6),(7,.int .i64 (i:Int)),(9,.ptr p9 0),(10,.ptr p10 0),(11,.int .i64 (m:Int)),(13,.int .i64 (q.1:Int))]) (fun q=>q.2)
   (fun q=>q.1≤K.cms.length∧Hv (1+i+1) σ id ks' hs is v5 v6 q.2∧q.2 p9=some (.box (K.cO v))∧q.2 p10=some (.box K.c)∧∃ M:List Int,M.length=K.cms.length∧Own 1 T (M.map cU) v q.2)
   (fun q=>K.cms.length+1 - q.1) (0,s4) rfl (Store.sub_refl _) ⟨Nat.zero_le _,hv4,q9,q10,K.cms,rfl,q2'⟩ ?_
  clear hv4 q9 q10 q2' s4
  rintro ⟨j,s⟩ ⟨hj,hv,q9,q10,M,hM,hO⟩
  simp only at hj hv q9 q10 hO
  have hOl:pv .len [v]=some (.int .i64 (K.cms.length:Int)):=by rw [(Rd.own hO).2,List.length_map,hM]
  have hKl:=hKo.2.2
  simp only [q9,o9,f8,hOl,↓vcPre,↓z0,↓reduceIte,vcPost,vcStd,Nat.reduceEqDiff,reduceCtorEq,Nat.reduceAdd,Nat.reduceLeDiff,Int.reduceLT,Int.reduceLE,↓u_setN]
  refine ⟨fun c2 => ?_,fun c2 => ?_⟩
  ·have hj':j<K.cms.length:=by omega
   have ej:IntKind.i64.wrap ((j:Int)+1)=((j+1:Nat):Int):=by rw [zf (by unfold I64;omega)];omega
   rcases hO with ⟨h1,_⟩ | ⟨ga,rfl,h2,h3⟩
   ·have:M=[]:=by simpa using h1
    rw [this] at hM;simp at hM;omega
   have hlm:(M.map cU).length=M.length:=List.length_map _
   have e0:0+j=j:=by omega
   have hjM:j<M.length:=by omega
   have hsp:∀ a b:Int,splice 0 [AV.int .u32 a] [AV.int .u32 b]=some [AV.int .u32 a]:=fun _ _=>rfl
   simp only [h3,hlm,ej,cU,hsp,↓vcPre,↓z0,↓reduceIte,vcPost,vcStd,Nat.reduceEqDiff,reduceCtorEq,Nat.reduceAdd,Nat.reduceLeDiff,Int.reduceLT,Int.reduceLE,↓u_setN]
   refine ⟨hjM,by omega,hjM,by omega,?_⟩
   simp only [e0]
   have hset:∀ y:Int,(M.map cU).set j [.int .u32 y]=(M.set j y).map cU:=fun y=>by rw [List.map_set];rfl
   rw [hset]
   have hσa:=zi hvT.sub h2
   have ga9:¬ p9=ga:=fun e=>by subst e;rw [q9] at h3;cases h3
   have ga10:¬ p10=ga:=fun e=>by subst e;rw [q10] at h3;cases h3
   refine NextQ.to (j+1,_) rfl (Store.sub_refl _) (by simp only;omega) ⟨hj',hv.arr h3 hσa (hvT.not6 h2),(Store.set_ne _ _ ga9).trans q9,(Store.set_ne _ _ ga10).trans q10,_,by rw [List.length_set];exact hM,.inr ⟨ga,by simp,h2,Store.set_same _ _ _⟩⟩
  ·clear hO hOl
   have hum:0<usesAt ks' m:=by rw [hus];omega
   refine (zbh hv.ti m hum).Q ?_
   rw [hga]
   rintro r s1 ⟨u,rfl,q1,q2⟩
   have hv1:=hv.mono q1
   have q10':=q1 _ _ q10
   have hu1:=q2.cell
   simp only [o9,z9,↓vcPre,↓z0,↓reduceIte,vcPost,vcStd,Nat.reduceEqDiff,reduceCtorEq,Nat.reduceAdd,Nat.reduceLeDiff,Int.reduceLT,Int.reduceLE,↓u_setN]
   refine AllocQ.i0 fun p14 h14 => ?_
   simp only [o9,z9,↓vcPre,↓z0,↓reduceIte,vcPost,vcStd,Nat.reduceEqDiff,reduceCtorEq,Nat.reduceAdd,Nat.reduceLeDiff,Int.reduceLT,Int.reduceLE,↓u_setN]
   have sX:Store.sub s1 ((s1.set p14 (.box zCells)).set p14 (.box (K.cO u))):=zb (Store.sub_set _ _ _ h14) h14
   have X14:=Store.set_same (s1.set p14 (.box zCells)) p14 (.box (K.cO u))
   generalize (s1.set p14 (.box zCells)).set p14 (.box (K.cO u))=X at sX X14 ⊢
   have X10:=sX _ _ q10'
   have hvX:=hv1.mono sX
   have hul:=q2.len
   have hux:(K.cms.length=0∧u = .nils)∨∃ gu,u = .os gu 1 0 K.cms.length∧s gu=none∧∃ M2:List Int,X gu=some (.arr 1 (M2.map cU))∧K.cms.length≤M2.length:=by
    rcases q2 with ⟨h1,h2⟩ | ⟨gu,M2,h1,h2,h3,h4,_⟩
    ·exact .inl ⟨by rw [h1];rfl,h2⟩
    ·exact .inr ⟨gu,h1,h2,M2,sX _ _ h3,h4⟩
   clear q2 hv1 q10' q1 sX h14
   refine LoopQ.inv (S:=Nat×Store) (fun q=>[(0,.sl 12 (l.map Ask.c)),(3,.ptr id 0),(5,v5),(6,v6),(7,.int .i64 (i:Int)),(10,.ptr p10 0),(11,.int .i64 (m:Int)),(14,.ptr p14 0),(16,.int .i64 (q.1:Int))]) (fun q=>q.2)
    (fun q=>q.1≤K.cms.length∧Hv (1+i+1) σ id ks' hs is v5 v6 q.2∧q.2 p14=some (.box (K.cO u))∧q.2 p10=some (.box K.c)∧((K.cms.length=0∧u = .nils)∨∃ gu,u = .os gu 1 0 K.cms.length∧s gu=none∧∃ M2:List Int,q.2 gu=some (.arr 1 (M2.map cU))∧K.cms.length≤M2.length))
    (fun q=>K.cms.length+1 - q.1) (0,X) rfl (Store.sub_refl _) ⟨Nat.zero_le _,hvX,X14,X10,hux⟩ ?_
   clear hvX X14 X10 hux X
   rintro ⟨j2,s2⟩ ⟨hj2,hv2,r14,r10,hux⟩
   simp only at hj2 hv2 r14 r10 hux
   simp only [r14,o9,f8,hul,↓vcPre,↓z0,↓reduceIte,vcPost,vcStd,Nat.reduceEqDiff,reduceCtorEq,Nat.reduceAdd,Nat.reduceLeDiff,Int.reduceLT,Int.reduceLE,↓u_setN]
   refine ⟨fun c3 => ?_,fun c3 => ?_⟩
   ·have hj3:j2<K.cms.length:=by omega
    have ej:IntKind.i64.wrap ((j2:Int)+1)=((j2+1:Nat):Int):=by rw [zf (by unfold I64;omega)];omega
    rcases hux with ⟨h1,_⟩ | ⟨gu,rfl,h2,M2,h3,h4⟩
    ·omega
    have hlm:(M2.map cU).length=M2.length:=List.length_map _
    have hsp:∀ a b:Int,splice 0 [AV.int .u32 a] [AV.int .u32 b]=some [AV.int .u32 a]:=fun _ _=>rfl
    have e0:0+j2=j2:=by omega
    simp only [h3,hlm,ej,cU,hsp,↓vcPre,↓z0,↓reduceIte,vcPost,vcStd,Nat.reduceEqDiff,reduceCtorEq,Nat.reduceAdd,Nat.reduceLeDiff,Int.reduceLT,Int.reduceLE,↓u_setN]
    refine ⟨by omega,by omega,?_⟩
    simp only [e0]
    have hset:∀ y:Int,(M2.map cU).set j2 [.int .u32 y]=(M2.set j2 y).map cU:=fun y=>by rw [List.map_set];rfl
    rw [hset]
    have g14:¬ p14=gu:=fun e=>by subst e;rw [r14] at h3;cases h3
    have g10:¬ p10=gu:=fun e=>by subst e;rw [r10] at h3;cases h3
    exact NextQ.to (j2+1,_) rfl (Store.sub_refl _) (by simp only;omega) ⟨hj3,hv2.arr h3 (zi hv.sub h2) (hv.not6 h2),(Store.set_ne _ _ g14).trans r14,(Store.set_ne _ _ g10).trans r10,.inr ⟨gu,rfl,h2,_,Store.set_same _ _ _,by rw [List.length_set];exact h4⟩⟩
   ·clear hux hul r14 hv q10
    have hil:is.length=i:=by have:=hr'.len;simp at this;omega
    have len5:pv .len [v5]=some (.int .i64 (hs.length:Int)):=by rw [(Rd.own hv2.o5).2,List.length_map]
    refine LoopQ.inv (S:=Nat) (fun k=>[(0,.sl 12 (l.map Ask.c)),(3,.ptr id 0),(5,v5),(6,v6),(7,.int .i64 (i:Int)),(10,.ptr p10 0),(11,.int .i64 (m:Int)),(17,.int .i64 ((1+(is.take k).count m:Nat):Int)),(18,.int .i64 (k:Int))]) (fun _=>s2)
     (fun k=>k≤hs.length) (fun k=>hs.length+1 - k) 0 rfl (Store.sub_refl _) (Nat.zero_le _) ?_
    intro k hk
    simp only [len5,↓vcPre,↓z0,↓reduceIte,vcPost,vcStd,Nat.reduceEqDiff,reduceCtorEq,Nat.reduceAdd,Nat.reduceLeDiff,Int.reduceLT,Int.reduceLE,↓u_setN]
    refine ⟨fun c4 => ?_,fun c4 => ?_⟩
    ·have hk':k<hs.length:=by omega
     have hk2:k<is.length:=by omega
     have ek:IntKind.i64.wrap ((k:Int)+1)=((k+1:Nat):Int):=by rw [zf (by unfold I64;omega)];omega
     obtain ⟨pp6,hpp6,hrd6⟩:=(Rd.own hv2.o6).at (k:=k) (by simpa using hk2)
     have hrd6':rd s2 1 pp6=some [.int .i64 (is[k]:Int)]:=by rw [hrd6 s2 (Store.sub_refl _) 1,List.getElem_map];rfl
     obtain ⟨pp5,hpp5,hrd5⟩:=(Rd.own hv2.o5).at (k:=k) (by simpa using hk')
     have hrd5':rd s2 9 pp5=some hs[k].c:=by rw [hrd5 s2 (Store.sub_refl _) 9,List.getElem_map];rfl
     obtain ⟨hko,hkc⟩:=hcs hs[k] (List.getElem_mem hk')
     obtain ⟨b,ub,hb1,hb2⟩:=hmu
     have hsm:=hr'.same hb1 (i:=k) (by simp;omega) (by simp;omega)
     rw [List.getElem_append_left hk2,List.getElem_append_left hk',hb2] at hsm
     have hrs:=c17 hs[k] K hko hKo
     rw [hkc,hKc] at hrs
     have htk:(is.take (k+1)).count m=(is.take k).count m+if is[k]=m then 1 else 0:=by
      rw [List.take_succ_eq_append_getElem hk2,List.count_append,List.count_singleton]
      simp
     have hcl:(is.take k).count m≤30:=by
      have:=List.count_le_length (a:=m) (l:=is.take k)
      rw [List.length_take] at this
      omega
     have en:IntKind.i64.wrap (((1+(is.take k).count m:Nat):Int)+1)=((1+((is.take k).count m+1):Nat):Int):=by rw [zf (by unfold I64;omega)];omega
     simp only [hpp6,hrd6',hpp5,hrd5',r10,e9,t9,↓vcPre,↓z0,↓reduceIte,vcPost,vcStd,Nat.reduceEqDiff,reduceCtorEq,Nat.reduceAdd,Nat.reduceLeDiff,Int.reduceLT,Int.reduceLE,↓u_setN]
     by_cases hkm:is[k]=m
     ·rw [decide_eq_true (hsm.1 hkm)] at hrs
      rw [if_pos hkm] at htk
      refine hrs.Q ?_
      have d1:decide ((is[k]:Int)=(m:Int))=true:=by simp [hkm]
      simp only [hpp6,hrd6',d1,↓vcPre,↓z0,↓reduceIte,vcPost,vcStd,Nat.reduceEqDiff,reduceCtorEq,Nat.reduceAdd,Nat.reduceLeDiff,Int.reduceLT,Int.reduceLE,↓u_setN]
      rw [show (true != true)=false from rfl,en,ek]
      simp only [↓vcPre,↓z0,↓reduceIte,vcPost,vcStd,Nat.reduceEqDiff,reduceCtorEq,Nat.reduceAdd,Nat.reduceLeDiff,Int.reduceLT,Int.reduceLE,↓u_setN]
      exact NextQ.to (k+1) (by simp only [htk]) (Store.sub_refl _) (by omega) (by omega)
     ·rw [decide_eq_false (fun h=>hkm (hsm.2 h))] at hrs
      rw [if_neg hkm] at htk
      refine hrs.Q ?_
      have d1:decide ((is[k]:Int)=(m:Int))=false:=by simp;omega
      simp only [hpp6,hrd6',d1,↓vcPre,↓z0,↓reduceIte,vcPost,vcStd,Nat.reduceEqDiff,reduceCtorEq,Nat.reduceAdd,Nat.reduceLeDiff,Int.reduceLT,Int.reduceLE,↓u_setN]
      rw [show (false != false)=false from rfl,ek]
      simp only [↓vcPre,↓z0,↓reduceIte,vcPost,vcStd,Nat.reduceEqDiff,reduceCtorEq,Nat.reduceAdd,Nat.reduceLeDiff,Int.reduceLT,Int.reduceLE,↓u_setN]
      exact NextQ.to (k+1) (by simp only [htk,Nat.add_zero]) (Store.sub_refl _) (by omega) (by omega)
    ·refine (s16 hv2.ti m).Q ?_
     rw [hga,decide_eq_true (show 0<usesAt ks' m by rw [hus];omega)]
     rintro r s3 ⟨rfl,rfl⟩
     simp only [e9,t9,hz,↓vcPre,↓z0,↓reduceIte,vcPost,vcStd,Nat.reduceEqDiff,reduceCtorEq,Nat.reduceAdd,Nat.reduceLeDiff,Int.reduceLT,Int.reduceLE,↓u_setN]
     refine AllocQ.i0 fun p19 h19 => ?_
     have n19:¬ p10=p19:=fun e=>by subst e;rw [r10] at h19;cases h19
     simp only [e9,hz,↓vcPre,↓z0,↓reduceIte,vcPost,vcStd,Nat.reduceEqDiff,reduceCtorEq,Nat.reduceAdd,Nat.reduceLeDiff,Int.reduceLT,Int.reduceLE,↓u_setN]
     have sZ:Store.sub s3 ((s3.set p19 (.box zCells)).set p19 (.box K.c)):=zb (Store.sub_set _ _ _ h19) h19
     have Z19:=Store.set_same (s3.set p19 (.box zCells)) p19 (.box K.c)
     generalize (s3.set p19 (.box zCells)).set p19 (.box K.c)=Z at sZ Z19 ⊢
     have Z10:=sZ _ _ r10
     have hvZ:=hv2.mono sZ
     clear sZ hv2 r10 h19
     have hka:=c18 K K hKo hKo
     rw [decide_eq_true rfl] at hka
     simp only [Z19,Z10,e9,t9,↓vcPre,↓z0,↓reduceIte,vcPost,vcStd,Nat.reduceEqDiff,reduceCtorEq,Nat.reduceAdd,Nat.reduceLeDiff,Int.reduceLT,Int.reduceLE,↓u_setN]
     refine hka.Q ?_
     simp only [↓vcPre,↓z0,↓reduceIte,vcPost,vcStd,Nat.reduceEqDiff,reduceCtorEq,Nat.reduceAdd,Nat.reduceLeDiff,Int.reduceLT,Int.reduceLE,↓u_setN]
     refine (s19 hvZ.ti m).Q ?_
     rw [hus]
     rintro r Z ⟨rfl,rfl⟩
     have hkh:is.take k=is:=List.take_of_length_le (by omega)
     rw [hkh]
     have hcc:((is.count m+1:Nat):Int)=((1+is.count m:Nat):Int):=by omega
     rw [hcc]
     try simp only [Z10,e9,t9,↓vcPre,↓z0,↓reduceIte,vcPost,vcStd,Nat.reduceEqDiff,reduceCtorEq,Nat.reduceAdd,Nat.reduceLeDiff,Int.reduceLT,Int.reduceLE,↓u_setN]
     refine AllocQ.i0 fun pa ha => ?_
     have sA:=Store.sub_set Z pa (.arr 9 [K.c]) ha
     have hvA:=hvZ.mono sA
     simp only [e9,t9,↓vcPre,↓z0,↓reduceIte,vcPost,vcStd,Nat.reduceEqDiff,reduceCtorEq,Nat.reduceAdd,Nat.reduceLeDiff,Int.reduceLT,Int.reduceLE,↓u_setN]
     refine Own.appP (τ:=σ) (ys:=[K.c]) hvA.sub hvA.o5 (zq (Store.set_same _ _ _) rfl) (by simp;omega) fun v5' s5 a1 a2 a3 => ?_
     have tiB:=hvA.ti.keepE (e2:=9) (by decide) a1 a3
     have o6B:=hvA.o6.keepE (e2:=9) (by decide) a3
     clear a3 hvA sA ha hvZ Z10 Z19
     refine AllocQ.i0 fun pb hb => ?_
     have sB:=Store.sub_set s5 pb (.arr 1 [[.int .i64 (m:Int)]]) hb
     simp only [↓vcPre,↓z0,↓reduceIte,vcPost,vcStd,Nat.reduceEqDiff,reduceCtorEq,Nat.reduceAdd,Nat.reduceLeDiff,Int.reduceLT,Int.reduceLE,↓u_setN]
     refine Own.appP (τ:=σ) (ys:=[cNat m]) (Store.sub_trans a1 sB) (o6B.mono sB) (zq (Store.set_same _ _ _) rfl) (by simp;omega) fun v6' s6 b1 b2 b3 => ?_
     have tiC:=(tiB.mono sB).keepE (e2:=1) (by decide) b1 b3
     have o5C:=(a2.mono sB).keepE (e2:=1) (by decide) b3
     have ei:IntKind.i64.wrap ((i:Int)+1)=((i+1:Nat):Int):=by rw [zf (by unfold I64;omega)];omega
     simp only [ei,↓vcPre,↓z0,↓reduceIte,vcPost,vcStd,Nat.reduceEqDiff,reduceCtorEq,Nat.reduceAdd,Nat.reduceLeDiff,Int.reduceLT,Int.reduceLE,↓u_setN]
     refine NextQ.to (i+1,ks',hs++[K],is++[m],v5',v6',s6) rfl (Store.sub_refl _) (by simp only;omega) ⟨by simp only;omega,by simp only;omega,⟨?_,?_,?_⟩,hr',by simp only [List.length_append,List.length_cons,List.length_nil];omega,hkl2,?_⟩
     ·have:(1:Int)+((i+1:Nat):Int)=1+i+1:=by omega
      simp only
      rw [this];exact tiC
     ·simp only [List.map_append,List.map_cons,List.map_nil];exact o5C
     ·simp only [List.map_append,List.map_cons,List.map_nil];exact b2
     ·intro a ha
      rcases List.mem_append.1 ha with h | h
      ·exact hcs a h
      ·rw [List.mem_singleton] at h;subst h;exact ⟨hKo,hKc⟩
 ·have hil:is.length=i:=by have:=hr.len;omega
  have hB30:(1:Int)+i≤1000000000:=by omega
  refine LoopQ.inv (S:=Nat×List KS×Store) (fun q=>[(3,.ptr id 0),(6,v6),(21,.int .i64 (q.1:Int))]) (fun q=>q.2.2)
   (fun q=>q.1≤is.length∧Hv (1+i) σ id q.2.1 hs is v5 v6 q.2.2∧Left q.2.1 (is.drop q.1)) (fun q=>is.length+1 - q.1) (0,ks,s) rfl (Store.sub_refl _) ⟨Nat.zero_le _,hv,by simpa using hr.left⟩ ?_
  rintro ⟨j,ks2,s2⟩ ⟨hj,hv2,hl2⟩
  simp only at hj hv2 hl2
  have r6:=Rd.own hv2.o6
  have len6:pv .len [v6]=some (.int .i64 (is.length:Int)):=by rw [r6.2,List.length_map]
  simp only [len6,↓vcPre,↓z0,↓reduceIte,vcPost,vcStd,Nat.reduceEqDiff,reduceCtorEq,Nat.reduceAdd,Nat.reduceLeDiff,Int.reduceLT,Int.reduceLE,↓u_setN]
  refine ⟨fun c2 => ?_,fun c2 => ?_⟩
  ·have hj':j<is.length:=by omega
   have ej:IntKind.i64.wrap ((j:Int)+1)=((j+1:Nat):Int):=by rw [zf (by unfold I64;omega)];omega
   obtain ⟨pp,hpp,hrd⟩:=r6.at (k:=j) (by simpa using hj')
   have hrd':rd s2 1 pp=some [.int .i64 (is[j]:Int)]:=by rw [hrd s2 (Store.sub_refl _) 1,List.getElem_map];rfl
   rw [List.drop_eq_getElem_cons hj'] at hl2
   obtain ⟨hu,hl3⟩:=hl2.drop
   simp only [hpp,hrd',↓vcPre,↓z0,↓reduceIte,vcPost,vcStd,Nat.reduceEqDiff,reduceCtorEq,Nat.reduceAdd,Nat.reduceLeDiff,Int.reduceLT,Int.reduceLE,↓u_setN]
   obtain ⟨τ,t1,t2,t3,t4⟩:=hv2.tab
   refine (s20 hB30 t2 (is[j]:Int)).Q ?_
   rintro r s3 ⟨rfl,h3⟩
   rw [if_pos hu]
   simp only [ej,↓vcPre,↓z0,↓reduceIte,vcPost,vcStd,Nat.reduceEqDiff,reduceCtorEq,Nat.reduceAdd,Nat.reduceLeDiff,Int.reduceLT,Int.reduceLE,↓u_setN]
   exact NextQ.to (j+1,_,s3) rfl (Store.sub_refl _) (by simp only;omega) ⟨hj',t4 _ _ _ h3,hl3⟩
  ·have hj':is.drop j=[]:=List.drop_of_length_le (by omega)
   rw [hj'] at hl2
   refine (s21 hv2.ti).Q ?_
   rintro r s3 ⟨rfl,rfl⟩
   rw [hl2.nil]
   simp only [↓vcPre,↓z0,↓reduceIte,vcPost,vcStd,Nat.reduceEqDiff,reduceCtorEq,Nat.reduceAdd,Nat.reduceLeDiff,Int.reduceLT,Int.reduceLE,↓u_setN]
   refine ⟨fun _=>c22.Q ?_,fun h=>absurd (by simp) h⟩
   simp only [↓vcPre,↓z0,↓reduceIte,vcPost,vcStd,Nat.reduceEqDiff,reduceCtorEq,Nat.reduceAdd,Nat.reduceLeDiff,Int.reduceLT,Int.reduceLE,↓u_setN]
   exact hv2.sub
 ·have hil:is.length=i:=by have:=hr.len;omega
  have hB30:(1:Int)+i≤1000000000:=by omega
  refine LoopQ.inv (S:=Nat×List KS×Store) (fun q=>[(3,.ptr id 0),(6,v6),(21,.int .i64 (q.1:Int))]) (fun q=>q.2.2)
   (fun q=>q.1≤is.length∧Hv (1+i) σ id q.2.1 hs is v5 v6 q.2.2∧Left q.2.1 (is.drop q.1)) (fun q=>is.length+1 - q.1) (0,ks,s) rfl (Store.sub_refl _) ⟨Nat.zero_le _,hv,by simpa using hr.left⟩ ?_
  rintro ⟨j,ks2,s2⟩ ⟨hj,hv2,hl2⟩
  simp only at hj hv2 hl2
  have r6:=Rd.own hv2.o6
  have len6:pv .len [v6]=some (.int .i64 (is.length:Int)):=by rw [r6.2,List.length_map]
  simp only [len6,↓vcPre,↓z0,↓reduceIte,vcPost,vcStd,Nat.reduceEqDiff,reduceCtorEq,Nat.reduceAdd,Nat.reduceLeDiff,Int.reduceLT,Int.reduceLE,↓u_setN]
  refine ⟨fun c2 => ?_,fun c2 => ?_⟩
  ·have hj':j<is.length:=by omega
   have ej:IntKind.i64.wrap ((j:Int)+1)=((j+1:Nat):Int):=by rw [zf (by unfold I64;omega)];omega
   obtain ⟨pp,hpp,hrd⟩:=r6.at (k:=j) (by simpa using hj')
   have hrd':rd s2 1 pp=some [.int .i64 (is[j]:Int)]:=by rw [hrd s2 (Store.sub_refl _) 1,List.getElem_map];rfl
   rw [List.drop_eq_getElem_cons hj'] at hl2
   obtain ⟨hu,hl3⟩:=hl2.drop
   simp only [hpp,hrd',↓vcPre,↓z0,↓reduceIte,vcPost,vcStd,Nat.reduceEqDiff,reduceCtorEq,Nat.reduceAdd,Nat.reduceLeDiff,Int.reduceLT,Int.reduceLE,↓u_setN]
   obtain ⟨τ,t1,t2,t3,t4⟩:=hv2.tab
   refine (s20 hB30 t2 (is[j]:Int)).Q ?_
   rintro r s3 ⟨rfl,h3⟩
   rw [if_pos hu]
   simp only [ej,↓vcPre,↓z0,↓reduceIte,vcPost,vcStd,Nat.reduceEqDiff,reduceCtorEq,Nat.reduceAdd,Nat.reduceLeDiff,Int.reduceLT,Int.reduceLE,↓u_setN]
   exact NextQ.to (j+1,_,s3) rfl (Store.sub_refl _) (by simp only;omega) ⟨hj',t4 _ _ _ h3,hl3⟩
  ·have hj':is.drop j=[]:=List.drop_of_length_le (by omega)
   rw [hj'] at hl2
   refine (s21 hv2.ti).Q ?_
   rintro r s3 ⟨rfl,rfl⟩
   rw [hl2.nil]
   simp only [↓vcPre,↓z0,↓reduceIte,vcPost,vcStd,Nat.reduceEqDiff,reduceCtorEq,Nat.reduceAdd,Nat.reduceLeDiff,Int.reduceLT,Int.reduceLE,↓u_setN]
   refine ⟨fun _=>c22.Q ?_,fun h=>absurd (by simp) h⟩
   simp only [↓vcPre,↓z0,↓reduceIte,vcPost,vcStd,Nat.reduceEqDiff,reduceCtorEq,Nat.reduceAdd,Nat.reduceLeDiff,Int.reduceLT,Int.reduceLE,↓u_setN]
   exact hv2.sub
end Go.Am
namespace Go.Am
open Go.Proofs Go.Sort
theorem z9d (xs:List AV) (h:TOk Try.prog 6 35 xs):∃ r:Ask,ImpL xs r.c∧True:=by
 obtain ⟨a1,b1,rfl,h1,a2,b2,rfl,h2,a3,b3,rfl,h3,a4,b4,rfl,h4,rfl⟩:=TOk.struct (ts:=[3,3,33,4]) Try.underlying35 rfl h
 obtain ⟨m1,rfl,g1,g2⟩:=TOk.int Try.underlying3 h1
 obtain ⟨m2,rfl,g3,g4⟩:=TOk.int Try.underlying3 h2
 obtain ⟨r,hr,_⟩:=dAt _ h3
 obtain ⟨m4,rfl⟩:=TOk.bool Try.underlying4 h4
 exact ⟨⟨m1,m2,r,m4⟩,(ImpL.one rfl).append ((ImpL.one rfl).append (hr.append ((ImpL.one rfl).append .nil))),trivial⟩
theorem zbu {w:World} {a:AV} {v:Value} (hr:VRel (G0 w) w a v) (h:TOk Try.prog 7 22 [a]):∃ rs:List Ask,VRel (G0 w) w (.sl 12 (rs.map Ask.c)) v∧Small rs∧∀ r ∈ rs,True:=by
 obtain ⟨rs,hi,hz,ho⟩:=TOk.slI (sz:=12) (by_:=104) Try.underlying22 (by kernel_rfl) (by kernel_rfl) Ask.c (fun _=>True) z9d h
 exact ⟨rs,z5d hi hr,z4b (by omega) hz,ho⟩
theorem zbd (l:List Ask) (hl:Small l) (_:∀ r ∈ l,True):Pur Try.prog 3 [.sl 12 (l.map Ask.c)] (.bool true):=z5g l hl
end Go.Am
