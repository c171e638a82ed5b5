/- A part of the proof: a logic for calls over plain values, and the functions that the law reaches, each walked once. -/
import Derived.Test.YtplkahhkogncjaaGreatQC9
import Derived.Sort.AssemblyPlain
import Derived.Sort.LotD5
import Derived.Laws.Bits64
set_option linter.unusedVariables false
set_option linter.unusedSimpArgs false
set_option linter.unusedSectionVars false
namespace Go.Am
def maskF (n:Int):Int:=if n<1 then 0 else shlInt .u32 4294967295 (32 - min n 32)
def I64 (n:Int):Prop := -9223372036854775808≤n∧n≤9223372036854775807
theorem zd {n:Int} (h:I64 n):IntKind.i64.wrap n=n:=by
 unfold I64 at h;simp [IntKind.wrap,IntKind.bits,IntKind.signed];omega
def rightF (a n:Int):Bool:=decide (0≤n) && decide (n≤32) && decide (bitInt .andNot .u32 a (maskF n)=0)
theorem z77:∀ i:Fin 32,bitInt BinOp.or .u32 (maskF (i.val:Int)) (shlInt .u32 1 (31 - (i.val:Int)))=maskF ((i.val:Int)+1):=by decide
theorem z0y {n:Int} (h:32≤n):maskF n=maskF 32:=by
 unfold maskF;rw [if_neg (by omega),if_neg (by omega),show min n 32=32 by omega,show min (32:Int) 32=32 by omega]
theorem z0z {n:Int} (h:n≤0):maskF n=maskF 0:=by
 unfold maskF;rw [if_pos (by omega),if_pos (by omega)]
def ofF (a n:Int):Int×Int:=(bitInt .and .u32 a (maskF (max (min n 32) 0)),max (min n 32) 0)
def cmpI (x y:Int):Int:=if x<y then -1 else if y<x then 1 else 0
theorem xd {esz bytes id0 off len:Nat} {y:AV} {xs ys:List (List AV)} {σ:Store} {K:AV→Store→Prop} (hx:slc σ esz (.os id0 esz off len)=some xs) (hy:slc σ esz y=some ys)
 (hroom:(xs.length+ys.length)*bytes≤140737488355328) (h:∀ id,σ id=none→K (.os id esz 0 (xs.length+ys.length)) ((σ.del id0).set id (.arr esz (xs++ys)))):appwp esz bytes (.os id0 esz off len) y σ K:=by
 unfold appwp
 rw [hx,hy]
 exact ⟨hroom,.inl h⟩
theorem z1t {esz bytes:Nat} {y:AV} {ys:List (List AV)} {σ:Store} {K:AV→Store→Prop} (hy:slc σ esz y=some ys)
 (hroom:ys.length*bytes≤140737488355328) (h0:ys=[]→K .nils σ) (h:ys≠[]→∀ id,σ id=none→K (.os id esz 0 ys.length) (σ.set id (.arr esz ys))):appwp esz bytes .nils y σ K:=by
 unfold appwp
 rw [hy,show slc σ esz .nils=some [] from rfl]
 exact ⟨by simpa using hroom,h0,h⟩
theorem us {esz:Nat} {es:List (List AV)} {σ:Store}:slc σ esz (.sl esz es)=some es:=by simp [slc]
theorem zq {esz id n:Nat} {es:List (List AV)} {σ:Store} (h:σ id=some (.arr esz es)) (hn:n=es.length):slc σ esz (.os id esz 0 n)=some es:=by
 subst hn
 simp [slc,h]
theorem um {σ:Store} {i j:Nat} {o p:Obj} (hi:σ i=none) (hj:((σ.set i o) j)=none):Store.sub σ ((((σ.set i o).del i).set j p).del j):=fun x q hx=>by
 have h1:x≠i:=fun e=>by subst e;rw [hi] at hx;cases hx
 have h2:x≠j:=fun e=>by
  subst e
  rw [Store.set_ne _ _ h1] at hj
  rw [hj] at hx;cases hx
 rw [Store.del_ne _ h2,Store.set_ne _ _ h2,Store.del_ne _ h1,Store.set_ne _ _ h1];exact hx
theorem ya (x y:Int):cmpI x y=0↔x=y:=by unfold cmpI;split <;> (try split) <;> omega
theorem EndQ.two {slots:List RS} {Q:AV→Store→Prop} {e:Env} {τ:Store} (v x:AV) (σ:Store) (h1:e.res τ slots=some (.tup [v,x])) (h:WeakL [v,x] τ (fun l s=>Q (.tup l) s)) : @EndQ e τ ⟨slots,Q⟩ :=
 by unfold EndQ;exact ⟨_,h1,Weak.tup h⟩
theorem EndQ.twoNil {slots:List RS} {Q:AV→Store→Prop} {e:Env} {τ:Store} (x:AV) (esz:Nat) (σ:Store) (h1:e.res τ slots=some (.tup [.nils,x])) (h2:Store.sub σ τ) (h3:Q (.tup [.sl esz [],x]) σ) : @EndQ e τ ⟨slots,Q⟩ :=
 EndQ.two .nils x σ h1 (WeakL.nil 0 esz rfl (WeakL.forget h2 (WeakL.pure h3)))
theorem EndQ.twoFrz {slots:List RS} {Q:AV→Store→Prop} {e:Env} {τ:Store} (x:AV) (id esz len:Nat) (es:List (List AV)) (σ:Store) (h1:e.res τ slots=some (.tup [.os id esz 0 len,x])) (h2:τ id=some (.arr esz es))
 (hle:len≤es.length) (h3:Store.sub σ (τ.del id)) (h4:Q (.tup [.sl esz (es.take len),x]) σ) : @EndQ e τ ⟨slots,Q⟩ :=
 EndQ.two _ x σ h1 (WeakL.freeze 0 rfl h2 (by omega) (WeakL.forget h3 (WeakL.pure h4)))
theorem y0 {s:Store} {b c:Nat} {o p:Obj} (hb:s b=none) (hc:s c=none) (hcb:¬ c=b):Store.sub s ((s.set b o).set c p) :=
 Store.sub_trans (Store.sub_set s b o hb) (Store.sub_set _ c p (by rw [Store.set_ne _ _ hcb];exact hc))
theorem zo {σ τ:Store} (h:Store.sub σ τ) {i:Nat} (hi:τ i=none):σ i=none:=by
 cases hc:σ i with
 | none=>rfl
 | some o=>rw [h _ _ hc] at hi;cases hi
theorem zb {σ τ:Store} {i:Nat} {o:Obj} (h:Store.sub σ τ) (hi:σ i=none):Store.sub σ (τ.set i o):=fun j p hj=>by
 have:j≠i:=fun e=>by subst e;rw [hi] at hj;cases hj
 rw [Store.set_ne _ _ this];exact h j p hj
def Own (esz:Nat) (τ:Store) (L:List (List AV)) (v:AV) (s:Store):Prop :=
 (L=[]∧v = .nils)∨∃ g,v = .os g esz 0 L.length∧τ g=none∧s g=some (.arr esz L)
theorem Own.app {esz bytes:Nat} {τ s:Store} {L:List (List AV)} {v wv:AV} {w:List AV} {K:AV→Store→Prop} (hsub:Store.sub τ s) (ho:Own esz τ L v s) (hw:slc s esz wv=some [w]) (hsz:(L.length+1)*bytes≤140737488355328)
 (h:∀ v' s',Store.sub τ s'→Own esz τ (L++[w]) v' s'→K v' s'):appwp esz bytes v wv s K:=by
 rcases ho with ⟨rfl,rfl⟩ | ⟨g,rfl,hg,hs⟩
 ·refine z1t hw (by simpa using hsz) (fun h0=>by cases h0) (fun _ j hj => ?_)
  refine h _ _ (zb hsub (zo hsub hj)) (.inr ⟨j,rfl,zo hsub hj,Store.set_same _ _ _⟩)
 ·refine xd (zq hs rfl) hw (by simpa using hsz) fun j hj => ?_
  have hτ:τ j=none:=zo hsub hj
  refine h _ _ (fun x q hx => ?_) (.inr ⟨j,by simp,hτ,by rw [Store.set_same]⟩)
  have hxj:x≠j:=fun e=>by subst e;rw [hτ] at hx;cases hx
  have hxg:x≠g:=fun e=>by subst e;rw [hg] at hx;cases hx
  rw [Store.set_ne _ _ hxj,Store.del_ne _ hxg];exact hsub x q hx
theorem Own.mono {esz:Nat} {τ s s':Store} {L:List (List AV)} {v:AV} (h:Own esz τ L v s) (hs:Store.sub s s'):Own esz τ L v s':=by
 rcases h with h | ⟨g,h1,h2,h3⟩
 ·exact .inl h
 ·exact .inr ⟨g,h1,h2,hs _ _ h3⟩
theorem Own.nil {esz:Nat} {τ s:Store}:Own esz τ [] .nils s := .inl ⟨rfl,rfl⟩
theorem EndQ.nil1 {slots:List RS} {Q:AV→Store→Prop} {e:Env} {τ:Store} (esz:Nat) (σ:Store) (h1:e.res τ slots=some .nils) (h2:Store.sub σ τ) (h3:Q (.sl esz []) σ) : @EndQ e τ ⟨slots,Q⟩:=by
 unfold EndQ
 exact ⟨_,h1,Weak.of_one (WeakL.nil 0 esz rfl (WeakL.forget h2 (WeakL.pure ⟨_,rfl,h3⟩)))⟩
theorem EndQ.own {esz:Nat} {slots:List RS} {Q:AV→Store→Prop} {e:Env} {σ τ:Store} {L:List (List AV)} {v:AV} (h1:e.res τ slots=some v) (ho:Own esz σ L v τ) (hs:Store.sub σ τ) (h4:Q (.sl esz L) σ) : @EndQ e τ ⟨slots,Q⟩:=by
 rcases ho with ⟨rfl,rfl⟩ | ⟨g,rfl,hg,hh⟩
 ·exact EndQ.nil1 esz σ h1 hs h4
 ·refine EndQ.frz g esz 0 L.length L σ h1 hh (by omega) (fun i o hi => ?_) (by simpa using h4)
  rw [Store.del_ne _ (fun e=>by subst e;rw [hg] at hi;cases hi)];exact hs i o hi
theorem EndQ.ownTwo {esz:Nat} {slots:List RS} {Q:AV→Store→Prop} {e:Env} {σ τ:Store} {L:List (List AV)} {v x:AV} (h1:e.res τ slots=some (.tup [v,x])) (ho:Own esz σ L v τ) (hs:Store.sub σ τ) (h4:Q (.tup [.sl esz L,x]) σ) : @EndQ e τ ⟨slots,Q⟩:=by
 rcases ho with ⟨rfl,rfl⟩ | ⟨g,rfl,hg,hh⟩
 ·exact EndQ.twoNil x esz σ h1 hs h4
 ·refine EndQ.twoFrz x g esz L.length L σ h1 hh (by omega) (fun i o hi => ?_) (by simpa using h4)
  rw [Store.del_ne _ (fun e=>by subst e;rw [hg] at hi;cases hi)];exact hs i o hi
theorem Own.weak {esz:Nat} {σ τ s:Store} {L:List (List AV)} {v:AV} (h:Own esz τ L v s) (hs:Store.sub σ τ):Own esz σ L v s:=by
 rcases h with h | ⟨g,h1,h2,h3⟩
 ·exact .inl h
 ·exact .inr ⟨g,h1,zo hs h2,h3⟩
theorem ub {α β:Type} (f:β→α→β) (b:β) {l:List α} {k:Nat} (h:k<l.length):(l.take (k+1)).foldl f b=f ((l.take k).foldl f b) l[k]:=by
 rw [List.take_add_one,List.getElem?_eq_getElem h,List.foldl_append]
 rfl
theorem WeakL.pos {l:List AV} {σ:Store} {Q:List AV→Store→Prop} (k:Nat) {a:AV} (ha:l[k]? = some a) (h:Weak a σ (fun b s=>WeakL (l.set k b) s Q)):WeakL l σ Q:=fun G w vs hs hr=>by
 obtain ⟨v,hv,hvr⟩:=hr.get k _ ha
 obtain ⟨G1,b,σ1,e1,s1,r1,h1⟩:=h G w v hs hvr
 obtain ⟨G2,as',σ2,e2,s2,r2,q2⟩:=h1 G1 w vs s1 (Rels.of_get (by simpa using hr.length) fun i hi hi'=>by
  by_cases hik:i=k
  ·subst hik
   rw [List.getElem?_eq_getElem hi'] at hv;cases hv
   simp;exact r1
  ·rw [List.getElem_set_ne (Ne.symm hik)]
   have hi2:i<l.length:=by simpa using hi
   obtain ⟨u,hu,hur⟩:=hr.get i _ (List.getElem?_eq_getElem hi2)
   rw [List.getElem?_eq_getElem hi'] at hu;cases hu
   exact e1.vrel hs hur)
 exact ⟨G2,as',σ2,e1.trans e2,s2,r2,q2⟩
theorem sub_del {σ τ:Store} {i:Nat} (h:Store.sub σ τ) (hi:σ i=none):Store.sub σ (τ.del i):=fun j p hj=>by
 have:j≠i:=fun e=>by subst e;rw [hi] at hj;cases hj
 rw [Store.del_ne _ this];exact h j p hj
end Go.Am
namespace Go.Am
open Go.Sort Go.Am.B
def FnIs (P:Program) (f:Nat) (b:BC) (slots:List RS) (n:Nat):Prop:=∃ F:Fn P f,F.b=b∧F.slots=slots∧n≤F.N
theorem y6 {P:Program} {f:Nat} {b:BC} {slots:List RS} {n:Nat} (H:FnIs P f b slots n) {args:List AV} {σ:Store} {Q:AV→Store→Prop} (hargs:args.length≤n)
 (h:bwp P b (argE 0 args) σ (fun e τ => @EndQ e τ ⟨slots,Q⟩) (fun e τ => @EndQ e τ ⟨slots,Q⟩) (fun _ _ _=>False)):ACalls P f args σ Q:=by
 obtain ⟨F,rfl,rfl,hn⟩:=H
 exact ze F (Nat.le_trans hargs hn) h
structure SN where
 ins:Nat
 rev:Nat
 sift:Nat
 heap:Nat
 parteq:Nat
 part:Nat
 ord2:Nat
 med:Nat
 medadj:Nat
 piv:Nat
 partins:Nat
 brk:Nat
 pdq:Nat
 less:Nat
 sort:Nat
 npow:Nat
 next:Nat
 len:Nat
def cK (κ:IntKind) (x:Int):List AV:=[.int κ x]
def cfU (x y:Int):Int:=x - y
def ltU (x y:Int):Bool:=decide (cfU x y<0)
namespace SB
def ins (N:SN):BC:=z [m 8 1,c 9 .add 8 1,m 6 9] [0,1,2,6] (.block 0 (.loop [0,1,2,6] (.seq (z [m 10 6,m 11 2,b 12 .lss 10 11] [0,1,2,6,12] (.cond (.t 12) .skip (.exit 0))) (.seq (.block 1 (z [m 15 6,m 7 15] [0,1,2,6,7] (.block 2 (.loop [0,1,2,6,7] (.seq (z [m 16 7,m 17 1,b 18 .gtr 16 17,m 19 18,⟨some 20,some (19,true),.pure (.mov),[.t 0]⟩,⟨some 21,some (19,true),.pure (.mov),[.t 7]⟩,⟨some 22,some (19,true),.pure (.idx 1),[.t 20,.t 21]⟩,⟨some 24,some (19,true),.pure (.mov),[.t 0]⟩,⟨some 25,some (19,true),.pure (.mov),[.t 7]⟩,⟨some 26,some (19,true),.pure (.bin .sub),[.t 25,.c (i 1)]⟩,⟨some 27,some (19,true),.pure (.idx 1),[.t 24,.t 26]⟩,⟨some 23,some (19,true),.load (.ld 1 false),[.t 22]⟩,⟨some 28,some (19,true),.load (.ld 1 false),[.t 27]⟩,⟨some 29,some (19,true),.loud (.call N.less),[.t 23,.t 28]⟩,⟨some 30,none,.pick,[.t 19,.t 29,.c (.bool false)]⟩] [0,1,2,6,7,30] (.cond (.t 30) .skip (.exit 2))) (.seq (.block 3 (.ops [m 33 0,m 34 7,m 35 0,m 36 7,c 37 .sub 36 1,m 38 0,m 39 7,c 40 .sub 39 1,x 41 1 38 40,m 43 0,m 44 7,x 45 1 43 44,l 42 1 41,l 46 1 45,x 47 1 33 34,s 1 47 42,x 48 1 35 37,s 1 48 46] [0,1,2,6,7])) (.ops [m 31 7,c 32 .sub 31 1,m 7 32] [0,1,2,6,7]))))))) (.ops [m 13 6,c 14 .add 13 1,m 6 14] [0,1,2,6])))))
def rev (N:SN):BC:=z [m 8 1,m 6 8] [0,2,6] (z [m 9 2,c 10 .sub 9 1,m 7 10] [0,6,7] (.block 0 (.loop [0,6,7] (.seq (z [m 11 6,m 12 7,b 13 .lss 11 12] [0,6,7,13] (.cond (.t 13) .skip (.exit 0))) (.block 1 (z [m 14 0,m 15 6,m 16 0,m 17 7,m 18 0,m 19 7,x 20 1 18 19,m 22 0,m 23 6,x 24 1 22 23,l 21 1 20,l 25 1 24,x 26 1 14 15,s 1 26 21,x 27 1 16 17,s 1 27 25] [0,6,7] (z [m 28 6,c 29 .add 28 1,m 6 29] [0,6,7] (.ops [m 30 7,c 31 .sub 30 1,m 7 31] [0,6,7]))))))))
def sift (N:SN):BC:=z [m 10 1,m 8 10] [0,2,3,8] (.block 0 (.loop [0,2,3,8] (.block 1 (z [m 11 8,p 12 (.bin .mul) [.c (i 2),.t 11],c 13 .add 12 1,m 9 13] [0,2,3,8,9] (.seq (z [m 14 9,m 15 2,b 16 .geq 14 15] [0,2,3,8,9,16] (.cond (.t 16) (.exit 0) .skip)) (.seq (z [m 17 9,c 18 .add 17 1,m 19 2,b 20 .lss 18 19,m 21 20,⟨some 22,some (21,true),.pure (.mov),[.t 0]⟩,⟨some 23,some (21,true),.pure (.mov),[.t 3]⟩,⟨some 24,some (21,true),.pure (.mov),[.t 9]⟩,⟨some 25,some (21,true),.pure (.bin .add),[.t 23,.t 24]⟩,⟨some 26,some (21,true),.pure (.idx 1),[.t 22,.t 25]⟩,⟨some 28,some (21,true),.pure (.mov),[.t 0]⟩,⟨some 29,some (21,true),.pure (.mov),[.t 3]⟩,⟨some 30,some (21,true),.pure (.mov),[.t 9]⟩,⟨some 31,some (21,true),.pure (.bin .add),[.t 29,.t 30]⟩,⟨some 32,some (21,true),.pure (.bin .add),[.t 31,.c (i 1)]⟩,⟨some 33,some (21,true),.pure (.idx 1),[.t 28,.t 32]⟩,⟨some 27,some (21,true),.load (.ld 1 false),[.t 26]⟩,⟨some 34,some (21,true),.load (.ld 1 false),[.t 33]⟩,⟨some 35,some (21,true),.loud (.call N.less),[.t 27,.t 34]⟩,⟨some 36,none,.pick,[.t 21,.t 35,.c (.bool false)]⟩] [0,2,3,8,9,36] (.cond (.t 36) (.ops [m 37 9,c 38 .add 37 1,m 9 38] [0,2,3,8,9]) .skip)) (.seq (z [m 39 0,m 40 3,m 41 8,b 42 .add 40 41,x 43 1 39 42,m 45 0,m 46 3,m 47 9,b 48 .add 46 47,x 49 1 45 48,l 44 1 43,l 50 1 49,g 51 N.less [.t 44,.t 50],u 52 .not 51] [0,2,3,8,9,52] (.cond (.t 52) .ret .skip)) (z [m 53 0,m 54 3,m 55 8,b 56 .add 54 55,m 57 0,m 58 3,m 59 9,b 60 .add 58 59,m 61 0,m 62 3,m 63 9,b 64 .add 62 63,x 65 1 61 64,m 67 0,m 68 3,m 69 8,b 70 .add 68 69,x 71 1 67 70,l 66 1 65,l 72 1 71,x 73 1 53 56,s 1 73 66,x 74 1 57 60,s 1 74 72] [0,2,3,9] (.ops [m 75 9,m 8 75] [0,2,3,8])))))))))
def heap (N:SN):BC:=z [m 11 1,m 6 11] [0,1,2,6] (z [j 7 0] [0,1,2,6,7] (z [m 12 2,m 13 1,b 14 .sub 12 13,m 8 14] [0,6,7,8] (.seq (z [m 15 8,c 16 .sub 15 1,c 17 .quo 16 2,m 9 17] [0,6,7,8,9] (.block 0 (.loop [0,6,7,8,9] (.seq (z [m 18 9,c 19 .geq 18 0] [0,6,7,8,9,19] (.cond (.t 19) .skip (.exit 0))) (.seq (.block 1 (.ops [m 22 0,m 23 9,m 24 8,m 25 6,g 26 N.sift [.t 22,.t 23,.t 24,.t 25]] [0,6,7,8,9])) (.ops [m 20 9,c 21 .sub 20 1,m 9 21] [0,6,7,8,9])))))) (z [m 27 8,c 28 .sub 27 1,m 10 28] [0,6,7,10] (.block 2 (.loop [0,6,7,10] (.seq (z [m 29 10,c 30 .geq 29 0] [0,6,7,10,30] (.cond (.t 30) .skip (.exit 2))) (.seq (.block 3 (z [m 33 0,m 34 6,m 35 0,m 36 6,m 37 10,b 38 .add 36 37,m 39 0,m 40 6,m 41 10,b 42 .add 40 41,x 43 1 39 42,m 45 0,m 46 6,x 47 1 45 46,l 44 1 43,l 48 1 47,x 49 1 33 34,s 1 49 44,x 50 1 35 38,s 1 50 48] [0,6,7,10] (.ops [m 51 0,m 52 7,m 53 10,m 54 6,g 55 N.sift [.t 51,.t 52,.t 53,.t 54]] [0,6,7,10]))) (.ops [m 31 10,c 32 .sub 31 1,m 10 32] [0,6,7,10])))))))))
def parteq (N:SN):BC:=z [j 8 0] [0,1,2,3] (z [m 11 0,m 12 1,m 13 0,m 14 3,m 15 0,m 16 3,x 17 1 15 16,m 19 0,m 20 1,x 21 1 19 20,l 18 1 17,l 22 1 21,x 23 1 11 12,s 1 23 18,x 24 1 13 14,s 1 24 22] [0,1,2] (z [m 25 1,c 26 .add 25 1,m 27 2,c 28 .sub 27 1,m 9 26,m 10 28] [0,1,9,10] (.seq (.block 0 (.loop [0,1,9,10] (.block 1 (.seq (.block 2 (.loop [0,1,9,10] (.seq (z [m 29 9,m 30 10,b 31 .leq 29 30,m 32 31,⟨some 33,some (32,true),.pure (.mov),[.t 0]⟩,⟨some 34,some (32,true),.pure (.mov),[.t 1]⟩,⟨some 35,some (32,true),.pure (.idx 1),[.t 33,.t 34]⟩,⟨some 37,some (32,true),.pure (.mov),[.t 0]⟩,⟨some 38,some (32,true),.pure (.mov),[.t 9]⟩,⟨some 39,some (32,true),.pure (.idx 1),[.t 37,.t 38]⟩,⟨some 36,some (32,true),.load (.ld 1 false),[.t 35]⟩,⟨some 40,some (32,true),.load (.ld 1 false),[.t 39]⟩,⟨some 41,some (32,true),.loud (.call N.less),[.t 36,.t 40]⟩,⟨some 42,some (32,true),.pure (.not),[.t 41]⟩,⟨some 43,none,.pick,[.t 32,.t 42,.c (.bool false)]⟩] [0,1,9,10,43] (.cond (.t 43) .skip (.exit 2))) (.block 3 (.ops [m 44 9,c 45 .add 44 1,m 9 45] [0,1,9,10]))))) (.seq (.block 4 (.loop [0,1,9,10] (.seq (z [m 46 9,m 47 10,b 48 .leq 46 47,m 49 48,⟨some 50,some (49,true),.pure (.mov),[.t 0]⟩,⟨some 51,some (49,true),.pure (.mov),[.t 1]⟩,⟨some 52,some (49,true),.pure (.idx 1),[.t 50,.t 51]⟩,⟨some 54,some (49,true),.pure (.mov),[.t 0]⟩,⟨some 55,some (49,true),.pure (.mov),[.t 10]⟩,⟨some 56,some (49,true),.pure (.idx 1),[.t 54,.t 55]⟩,⟨some 53,some (49,true),.load (.ld 1 false),[.t 52]⟩,⟨some 57,some (49,true),.load (.ld 1 false),[.t 56]⟩,⟨some 58,some (49,true),.loud (.call N.less),[.t 53,.t 57]⟩,⟨some 59,none,.pick,[.t 49,.t 58,.c (.bool false)]⟩] [0,1,9,10,59] (.cond (.t 59) .skip (.exit 4))) (.block 5 (.ops [m 60 10,c 61 .sub 60 1,m 10 61] [0,1,9,10]))))) (.seq (z [m 62 9,m 63 10,b 64 .gtr 62 63] [0,1,9,10,64] (.cond (.t 64) (.exit 0) .skip)) (z [m 65 0,m 66 9,m 67 0,m 68 10,m 69 0,m 70 10,x 71 1 69 70,m 73 0,m 74 9,x 75 1 73 74,l 72 1 71,l 76 1 75,x 77 1 65 66,s 1 77 72,x 78 1 67 68,s 1 78 76] [0,1,9,10] (z [m 79 9,c 80 .add 79 1,m 9 80] [0,1,9,10] (.ops [m 81 10,c 82 .sub 81 1,m 10 82] [0,1,9,10]))))))))) (z [m 83 9,m 8 83] [8] .ret))))
def part (N:SN):BC:=z [j 8 0,k 9 (.bool false)] [0,1,2,3] (z [m 12 0,m 13 1,m 14 0,m 15 3,m 16 0,m 17 3,x 18 1 16 17,m 20 0,m 21 1,x 22 1 20 21,l 19 1 18,l 23 1 22,x 24 1 12 13,s 1 24 19,x 25 1 14 15,s 1 25 23] [0,1,2] (z [m 26 1,c 27 .add 26 1,m 28 2,c 29 .sub 28 1,m 10 27,m 11 29] [0,1,10,11] (.seq (.block 0 (.loop [0,1,10,11] (.seq (z [m 30 10,m 31 11,b 32 .leq 30 31,m 33 32,⟨some 34,some (33,true),.pure (.mov),[.t 0]⟩,⟨some 35,some (33,true),.pure (.mov),[.t 10]⟩,⟨some 36,some (33,true),.pure (.idx 1),[.t 34,.t 35]⟩,⟨some 38,some (33,true),.pure (.mov),[.t 0]⟩,⟨some 39,some (33,true),.pure (.mov),[.t 1]⟩,⟨some 40,some (33,true),.pure (.idx 1),[.t 38,.t 39]⟩,⟨some 37,some (33,true),.load (.ld 1 false),[.t 36]⟩,⟨some 41,some (33,true),.load (.ld 1 false),[.t 40]⟩,⟨some 42,some (33,true),.loud (.call N.less),[.t 37,.t 41]⟩,⟨some 43,none,.pick,[.t 33,.t 42,.c (.bool false)]⟩] [0,1,10,11,43] (.cond (.t 43) .skip (.exit 0))) (.block 1 (.ops [m 44 10,c 45 .add 44 1,m 10 45] [0,1,10,11]))))) (.seq (.block 2 (.loop [0,1,10,11] (.seq (z [m 46 10,m 47 11,b 48 .leq 46 47,m 49 48,⟨some 50,some (49,true),.pure (.mov),[.t 0]⟩,⟨some 51,some (49,true),.pure (.mov),[.t 11]⟩,⟨some 52,some (49,true),.pure (.idx 1),[.t 50,.t 51]⟩,⟨some 54,some (49,true),.pure (.mov),[.t 0]⟩,⟨some 55,some (49,true),.pure (.mov),[.t 1]⟩,⟨some 56,some (49,true),.pure (.idx 1),[.t 54,.t 55]⟩,⟨some 53,some (49,true),.load (.ld 1 false),[.t 52]⟩,⟨some 57,some (49,true),.load (.ld 1 false),[.t 56]⟩,⟨some 58,some (49,true),.loud (.call N.less),[.t 53,.t 57]⟩,⟨some 59,some (49,true),.pure (.not),[.t 58]⟩,⟨some 60,none,.pick,[.t 49,.t 59,.c (.bool false)]⟩] [0,1,10,11,60] (.cond (.t 60) .skip (.exit 2))) (.block 3 (.ops [m 61 11,c 62 .sub 61 1,m 11 62] [0,1,10,11]))))) (.seq (z [m 63 10,m 64 11,b 65 .gtr 63 64] [0,1,10,11,65] (.cond (.t 65) (z [m 66 0,m 67 11,m 68 0,m 69 1,m 70 0,m 71 1,x 72 1 70 71,m 74 0,m 75 11,x 76 1 74 75,l 73 1 72,l 77 1 76,x 78 1 66 67,s 1 78 73,x 79 1 68 69,s 1 79 77] [11] (z [m 80 11,m 8 80,k 9 (.bool true)] [8,9] .ret)) .skip)) (z [m 81 0,m 82 10,m 83 0,m 84 11,m 85 0,m 86 11,x 87 1 85 86,m 89 0,m 90 10,x 91 1 89 90,l 88 1 87,l 92 1 91,x 93 1 81 82,s 1 93 88,x 94 1 83 84,s 1 94 92] [0,1,10,11] (z [m 95 10,c 96 .add 95 1,m 10 96] [0,1,10,11] (z [m 97 11,c 98 .sub 97 1,m 11 98] [0,1,10,11] (.seq (.block 4 (.loop [0,1,10,11] (.block 5 (.seq (.block 6 (.loop [0,1,10,11] (.seq (z [m 99 10,m 100 11,b 101 .leq 99 100,m 102 101,⟨some 103,some (102,true),.pure (.mov),[.t 0]⟩,⟨some 104,some (102,true),.pure (.mov),[.t 10]⟩,⟨some 105,some (102,true),.pure (.idx 1),[.t 103,.t 104]⟩,⟨some 107,some (102,true),.pure (.mov),[.t 0]⟩,⟨some 108,some (102,true),.pure (.mov),[.t 1]⟩,⟨some 109,some (102,true),.pure (.idx 1),[.t 107,.t 108]⟩,⟨some 106,some (102,true),.load (.ld 1 false),[.t 105]⟩,⟨some 110,some (102,true),.load (.ld 1 false),[.t 109]⟩,⟨some 111,some (102,true),.loud (.call N.less),[.t 106,.t 110]⟩,⟨some 112,none,.pick,[.t 102,.t 111,.c (.bool false)]⟩] [0,1,10,11,112] (.cond (.t 112) .skip (.exit 6))) (.block 7 (.ops [m 113 10,c 114 .add 113 1,m 10 114] [0,1,10,11]))))) (.seq (.block 8 (.loop [0,1,10,11] (.seq (z [m 115 10,m 116 11,b 117 .leq 115 116,m 118 117,⟨some 119,some (118,true),.pure (.mov),[.t 0]⟩,⟨some 120,some (118,true),.pure (.mov),[.t 11]⟩,⟨some 121,some (118,true),.pure (.idx 1),[.t 119,.t 120]⟩,⟨some 123,some (118,true),.pure (.mov),[.t 0]⟩,⟨some 124,some (118,true),.pure (.mov),[.t 1]⟩,⟨some 125,some (118,true),.pure (.idx 1),[.t 123,.t 124]⟩,⟨some 122,some (118,true),.load (.ld 1 false),[.t 121]⟩,⟨some 126,some (118,true),.load (.ld 1 false),[.t 125]⟩,⟨some 127,some (118,true),.loud (.call N.less),[.t 122,.t 126]⟩,⟨some 128,some (118,true),.pure (.not),[.t 127]⟩,⟨some 129,none,.pick,[.t 118,.t 128,.c (.bool false)]⟩] [0,1,10,11,129] (.cond (.t 129) .skip (.exit 8))) (.block 9 (.ops [m 130 11,c 131 .sub 130 1,m 11 131] [0,1,10,11]))))) (.seq (z [m 132 10,m 133 11,b 134 .gtr 132 133] [0,1,10,11,134] (.cond (.t 134) (.exit 4) .skip)) (z [m 135 0,m 136 10,m 137 0,m 138 11,m 139 0,m 140 11,x 141 1 139 140,m 143 0,m 144 10,x 145 1 143 144,l 142 1 141,l 146 1 145,x 147 1 135 136,s 1 147 142,x 148 1 137 138,s 1 148 146] [0,1,10,11] (z [m 149 10,c 150 .add 149 1,m 10 150] [0,1,10,11] (.ops [m 151 11,c 152 .sub 151 1,m 11 152] [0,1,10,11]))))))))) (z [m 153 0,m 154 11,m 155 0,m 156 1,m 157 0,m 158 1,x 159 1 157 158,m 161 0,m 162 11,x 163 1 161 162,l 160 1 159,l 164 1 163,x 165 1 153 154,s 1 165 160,x 166 1 155 156,s 1 166 164] [11] (z [m 167 11,m 8 167,k 9 (.bool false)] [8,9] .ret)))))))))))
def ord2 (N:SN):BC:=z [j 8 0,j 9 0] [0,1,2,3] (.seq (z [m 10 0,m 11 2,x 12 1 10 11,m 14 0,m 15 1,x 16 1 14 15,l 13 1 12,l 17 1 16,g 18 N.less [.t 13,.t 17]] [1,2,3,18] (.cond (.t 18) (z [m 19 3,u 20 .nilchk 19,l 21 1 20,c 22 .add 21 1,u 23 .nilchk 19,s 1 23 22] [1,2] (z [m 24 2,m 25 1,m 8 24,m 9 25] [8,9] .ret)) .skip)) (z [m 26 1,m 27 2,m 8 26,m 9 27] [8,9] .ret))
def med (N:SN):BC:=z [j 10 0] [0,1,2,3,4] (z [m 12 0,m 13 1,m 14 2,m 15 4,g 16 N.ord2 [.t 12,.t 13,.t 14,.t 15],m 11 16,e 17 0 11,e 18 1 11,m 1 17,m 2 18] [0,1,2,3,4] (z [m 20 0,m 21 2,m 22 3,m 23 4,g 24 N.ord2 [.t 20,.t 21,.t 22,.t 23],m 19 24,e 25 0 19,e 26 1 19,m 2 25,m 3 26] [0,1,2,4] (z [m 28 0,m 29 1,m 30 2,m 31 4,g 32 N.ord2 [.t 28,.t 29,.t 30,.t 31],m 27 32,e 33 0 27,e 34 1 27,m 1 33,m 2 34] [2] (z [m 35 2,m 10 35] [10] .ret))))
def medadj (N:SN):BC:=z [j 6 0] [0,1,2] (z [m 7 0,m 8 1,c 9 .sub 8 1,m 10 1,m 11 1,c 12 .add 11 1,m 13 2,g 14 N.med [.t 7,.t 9,.t 10,.t 12,.t 13],m 6 14] [6] .ret)
def piv (N:SN):BC:=z [j 6 0,j 7 0] [0,1,2] (z [m 13 2,m 14 1,b 15 .sub 13 14,m 8 15] [0,1,8] (z [⟨some 9,none,.alloc (.alloc [(.int .i64 0)]),[]⟩] [0,1,8,9] (z [m 16 1,m 17 8,c 18 .quo 17 4,c 19 .mul 18 1,b 20 .add 16 19,m 10 20] [0,1,8,9,10] (z [m 21 1,m 22 8,c 23 .quo 22 4,c 24 .mul 23 2,b 25 .add 21 24,m 11 25] [0,1,8,9,10,11] (z [m 26 1,m 27 8,c 28 .quo 27 4,c 29 .mul 28 3,b 30 .add 26 29,m 12 30] [0,8,9,10,11,12] (.seq (z [m 31 8,c 32 .geq 31 8] [0,8,9,10,11,12,32] (.cond (.t 32) (.seq (z [m 33 8,c 34 .geq 33 50] [0,9,10,11,12,34] (.cond (.t 34) (z [m 35 0,m 36 10,g 37 N.medadj [.t 35,.t 36,.t 9],m 10 37] [0,9,10,11,12] (z [m 38 0,m 39 11,g 40 N.medadj [.t 38,.t 39,.t 9],m 11 40] [0,9,10,11,12] (.ops [m 41 0,m 42 12,g 43 N.medadj [.t 41,.t 42,.t 9],m 12 43] [0,9,10,11,12]))) .skip)) (.ops [m 44 0,m 45 10,m 46 11,m 47 12,g 48 N.med [.t 44,.t 45,.t 46,.t 47,.t 9],m 11 48] [9,11])) .skip)) (z [l 49 1 9] [11,49] (.block 0 (z [c 52 .eql 49 0,m 51 52] [11,49,51] (.cond (.t 51) (z [m 53 11,m 6 53,j 7 1] [6,7] .ret) (z [c 55 .eql 49 12,m 54 55] [11,54] (.cond (.t 54) (z [m 56 11,m 6 56,j 7 2] [6,7] .ret) (z [m 50 11,m 6 50,j 7 0] [6,7] .ret)))))))))))))
def partins (N:SN):BC:=z [k 6 (.bool false)] [0,1,2] (z [m 11 1,c 12 .add 11 1,m 7 12] [0,1,2,7] (.seq (z [j 8 0] [0,1,2,7,8] (.block 0 (.loop [0,1,2,7,8] (.seq (z [m 13 8,c 14 .lss 13 5] [0,1,2,7,8,14] (.cond (.t 14) .skip (.exit 0))) (.seq (.block 1 (.seq (.block 2 (.loop [0,1,2,7,8] (.seq (z [m 17 7,m 18 2,b 19 .lss 17 18,m 20 19,⟨some 21,some (20,true),.pure (.mov),[.t 0]⟩,⟨some 22,some (20,true),.pure (.mov),[.t 7]⟩,⟨some 23,some (20,true),.pure (.idx 1),[.t 21,.t 22]⟩,⟨some 25,some (20,true),.pure (.mov),[.t 0]⟩,⟨some 26,some (20,true),.pure (.mov),[.t 7]⟩,⟨some 27,some (20,true),.pure (.bin .sub),[.t 26,.c (i 1)]⟩,⟨some 28,some (20,true),.pure (.idx 1),[.t 25,.t 27]⟩,⟨some 24,some (20,true),.load (.ld 1 false),[.t 23]⟩,⟨some 29,some (20,true),.load (.ld 1 false),[.t 28]⟩,⟨some 30,some (20,true),.loud (.call N.less),[.t 24,.t 29]⟩,⟨some 31,some (20,true),.pure (.not),[.t 30]⟩,⟨some 32,none,.pick,[.t 20,.t 31,.c (.bool false)]⟩] [0,1,2,7,8,32] (.cond (.t 32) .skip (.exit 2))) (.block 3 (.ops [m 33 7,c 34 .add 33 1,m 7 34] [0,1,2,7,8]))))) (.seq (z [m 35 7,m 36 2,b 37 .eql 35 36] [0,1,2,7,8,37] (.cond (.t 37) (z [k 6 (.bool true)] [6] .ret) .skip)) (.seq (z [m 38 2,m 39 1,b 40 .sub 38 39,c 41 .lss 40 50] [0,1,2,7,8,41] (.cond (.t 41) (z [k 6 (.bool false)] [6] .ret) .skip)) (z [m 42 0,m 43 7,m 44 0,m 45 7,c 46 .sub 45 1,m 47 0,m 48 7,c 49 .sub 48 1,x 50 1 47 49,m 52 0,m 53 7,x 54 1 52 53,l 51 1 50,l 55 1 54,x 56 1 42 43,s 1 56 51,x 57 1 44 46,s 1 57 55] [0,1,2,7,8] (.seq (z [m 58 7,m 59 1,b 60 .sub 58 59,c 61 .geq 60 2] [0,1,2,7,8,61] (.cond (.t 61) (z [m 62 7,c 63 .sub 62 1,m 9 63] [0,1,2,7,8,9] (.block 4 (.loop [0,1,2,7,8,9] (.seq (z [m 64 9,c 65 .geq 64 1] [0,1,2,7,8,9,65] (.cond (.t 65) .skip (.exit 4))) (.seq (.block 5 (.seq (z [m 68 0,m 69 9,x 70 1 68 69,m 72 0,m 73 9,c 74 .sub 73 1,x 75 1 72 74,l 71 1 70,l 76 1 75,g 77 N.less [.t 71,.t 76],u 78 .not 77] [0,1,2,7,8,9,78] (.cond (.t 78) (.exit 4) .skip)) (.ops [m 79 0,m 80 9,m 81 0,m 82 9,c 83 .sub 82 1,m 84 0,m 85 9,c 86 .sub 85 1,x 87 1 84 86,m 89 0,m 90 9,x 91 1 89 90,l 88 1 87,l 92 1 91,x 93 1 79 80,s 1 93 88,x 94 1 81 83,s 1 94 92] [0,1,2,7,8,9]))) (.ops [m 66 9,c 67 .sub 66 1,m 9 67] [0,1,2,7,8,9])))))) .skip)) (z [m 95 2,m 96 7,b 97 .sub 95 96,c 98 .geq 97 2] [0,1,2,7,8,98] (.cond (.t 98) (z [m 99 7,c 100 .add 99 1,m 10 100] [0,1,2,7,8,10] (.block 6 (.loop [0,1,2,7,8,10] (.seq (z [m 101 10,m 102 2,b 103 .lss 101 102] [0,1,2,7,8,10,103] (.cond (.t 103) .skip (.exit 6))) (.seq (.block 7 (.seq (z [m 106 0,m 107 10,x 108 1 106 107,m 110 0,m 111 10,c 112 .sub 111 1,x 113 1 110 112,l 109 1 108,l 114 1 113,g 115 N.less [.t 109,.t 114],u 116 .not 115] [0,1,2,7,8,10,116] (.cond (.t 116) (.exit 6) .skip)) (.ops [m 117 0,m 118 10,m 119 0,m 120 10,c 121 .sub 120 1,m 122 0,m 123 10,c 124 .sub 123 1,x 125 1 122 124,m 127 0,m 128 10,x 129 1 127 128,l 126 1 125,l 130 1 129,x 131 1 117 118,s 1 131 126,x 132 1 119 121,s 1 132 130] [0,1,2,7,8,10]))) (.ops [m 104 10,c 105 .add 104 1,m 10 105] [0,1,2,7,8,10])))))) .skip)))))))) (.ops [m 15 8,c 16 .add 15 1,m 8 16] [0,1,2,7,8])))))) (z [k 6 (.bool false)] [6] .ret)))
def brk (N:SN):BC:=z [m 11 2,m 12 1,b 13 .sub 11 12,m 6 13] [0,1,6] (z [m 14 6,c 15 .geq 14 8] [0,1,6,15] (.cond (.t 15) (z [m 16 6,u 17 (.conv .u64) 16,⟨some 7,none,.alloc (.alloc [(.int .u64 0)]),[]⟩,s 1 7 17] [0,1,6,7] (z [m 18 6,g 19 N.npow [.t 18],m 8 19] [0,1,6,7,8] (z [m 20 1,m 21 6,c 22 .quo 21 4,c 23 .mul 22 2,b 24 .add 20 23,c 25 .sub 24 1,m 9 25] [0,1,6,7,8,9] (.block 0 (.loop [0,1,6,7,8,9] (.seq (z [m 26 9,m 27 1,m 28 6,c 29 .quo 28 4,c 30 .mul 29 2,b 31 .add 27 30,c 32 .add 31 1,b 33 .leq 26 32] [0,1,6,7,8,9,33] (.cond (.t 33) .skip (.exit 0))) (.seq (.block 1 (z [g 36 N.next [.t 7],m 37 8,p 38 (.bin .sub) [.t 37,.c (.int .u64 1)],b 39 .and 36 38,u 40 (.conv .i64) 39,m 10 40] [0,1,6,7,8,9,10] (.seq (z [m 41 10,m 42 6,b 43 .geq 41 42] [0,1,6,7,8,9,10,43] (.cond (.t 43) (.ops [m 44 10,m 45 6,b 46 .sub 44 45,m 10 46] [0,1,6,7,8,9,10]) .skip)) (.ops [m 47 0,m 48 9,m 49 0,m 50 1,m 51 10,b 52 .add 50 51,m 53 0,m 54 1,m 55 10,b 56 .add 54 55,x 57 1 53 56,m 59 0,m 60 9,x 61 1 59 60,l 58 1 57,l 62 1 61,x 63 1 47 48,s 1 63 58,x 64 1 49 52,s 1 64 62] [0,1,6,7,8,9])))) (.ops [m 34 9,c 35 .add 34 1,m 9 35] [0,1,6,7,8,9])))))))) .skip))
def pdqT (N:SN):BC := .seq (z [m 73 1,c 74 .gtr 73 0,m 75 74,⟨some 76,some (75,true),.pure (.mov),[.t 0]⟩,⟨some 77,some (75,true),.pure (.mov),[.t 1]⟩,⟨some 78,some (75,true),.pure (.bin .sub),[.t 77,.c (i 1)]⟩,⟨some 79,some (75,true),.pure (.idx 1),[.t 76,.t 78]⟩,⟨some 81,some (75,true),.pure (.mov),[.t 0]⟩,⟨some 82,some (75,true),.pure (.mov),[.t 11]⟩,⟨some 83,some (75,true),.pure (.idx 1),[.t 81,.t 82]⟩,⟨some 80,some (75,true),.load (.ld 1 false),[.t 79]⟩,⟨some 84,some (75,true),.load (.ld 1 false),[.t 83]⟩,⟨some 85,some (75,true),.loud (.call N.less),[.t 80,.t 84]⟩,⟨some 86,some (75,true),.pure (.not),[.t 85]⟩,⟨some 87,none,.pick,[.t 75,.t 86,.c (.bool false)]⟩] [0,1,2,3,8,9,10,11,87] (.cond (.t 87) (z [m 88 0,m 89 1,m 90 2,m 91 11,g 92 N.parteq [.t 88,.t 89,.t 90,.t 91],m 13 92] [0,2,3,8,9,13] (z [m 93 13,m 1 93] [0,1,2,3,8,9] (.exit 1))) .skip)) (z [m 95 0,m 96 1,m 97 2,m 98 11,g 99 N.part [.t 95,.t 96,.t 97,.t 98],m 94 99,e 100 0 94,e 101 1 94,m 14 100,m 15 101] [0,1,2,3,10,14,15] (z [m 102 15,m 9 102] [0,1,2,3,9,10,14] (z [m 103 14,m 104 1,b 105 .sub 103 104,m 106 2,m 107 14,b 108 .sub 106 107,m 16 105,m 17 108] [0,1,2,3,9,10,14,16,17] (z [m 109 10,c 110 .quo 109 8,m 18 110] [0,1,2,3,9,14,16,17,18] (z [m 111 16,m 112 17,b 113 .lss 111 112] [0,1,2,3,9,14,16,17,18,113] (.cond (.t 113) (z [m 114 16,m 115 18,b 116 .geq 114 115,m 8 116] [0,1,2,3,8,9,14] (z [m 117 0,m 118 1,m 119 14,m 120 3,g 121 N.pdq [.t 117,.t 118,.t 119,.t 120]] [0,2,3,8,9,14] (.ops [m 122 14,c 123 .add 122 1,m 1 123] [0,1,2,3,8,9]))) (z [m 124 17,m 125 18,b 126 .geq 124 125,m 8 126] [0,1,2,3,8,9,14] (z [m 127 0,m 128 14,c 129 .add 128 1,m 130 2,m 131 3,g 132 N.pdq [.t 127,.t 129,.t 130,.t 131]] [0,1,3,8,9,14] (.ops [m 133 14,m 2 133] [0,1,2,3,8,9])))))))))
def pdq (N:SN):BC:=z [k 8 (.bool true)] [0,1,2,3,8] (z [k 9 (.bool true)] [0,1,2,3,8,9] (.block 0 (.loop [0,1,2,3,8,9] (.block 1 (z [m 19 2,m 20 1,b 21 .sub 19 20,m 10 21] [0,1,2,3,8,9,10] (.seq (z [m 22 10,c 23 .leq 22 12] [0,1,2,3,8,9,10,23] (.cond (.t 23) (z [m 24 0,m 25 1,m 26 2,g 27 N.ins [.t 24,.t 25,.t 26]] [] .ret) .skip)) (.seq (z [m 28 3,c 29 .eql 28 0] [0,1,2,3,8,9,10,29] (.cond (.t 29) (z [m 30 0,m 31 1,m 32 2,g 33 N.heap [.t 30,.t 31,.t 32]] [] .ret) .skip)) (.seq (z [m 34 8,u 35 .not 34] [0,1,2,3,8,9,10,35] (.cond (.t 35) (z [m 36 0,m 37 1,m 38 2,g 39 N.brk [.t 36,.t 37,.t 38]] [0,1,2,3,8,9,10] (.ops [m 40 3,c 41 .sub 40 1,m 3 41] [0,1,2,3,8,9,10])) .skip)) (z [m 43 0,m 44 1,m 45 2,g 46 N.piv [.t 43,.t 44,.t 45],m 42 46,e 47 0 42,e 48 1 42,m 11 47,m 12 48] [0,1,2,3,8,9,10,11,12] (.seq (z [m 49 12,c 50 .eql 49 2] [0,1,2,3,8,9,10,11,12,50] (.cond (.t 50) (z [m 51 0,m 52 1,m 53 2,g 54 N.rev [.t 51,.t 52,.t 53]] [0,1,2,3,8,9,10,11] (z [m 55 2,c 56 .sub 55 1,m 57 11,m 58 1,b 59 .sub 57 58,b 60 .sub 56 59,m 11 60] [0,1,2,3,8,9,10,11] (.ops [j 12 1] [0,1,2,3,8,9,10,11,12]))) .skip)) (.seq (z [m 61 8,m 62 61,⟨some 63,some (62,true),.pure (.mov),[.t 9]⟩,⟨some 64,none,.pick,[.t 62,.t 63,.c (.bool false)]⟩,m 65 64,⟨some 66,some (65,true),.pure (.mov),[.t 12]⟩,⟨some 67,some (65,true),.pure (.bin .eql),[.t 66,.c (i 1)]⟩,⟨some 68,none,.pick,[.t 65,.t 67,.c (.bool false)]⟩] [0,1,2,3,8,9,10,11,68] (.cond (.t 68) (z [m 69 0,m 70 1,m 71 2,g 72 N.partins [.t 69,.t 70,.t 71]] [0,1,2,3,8,9,10,11,72] (.cond (.t 72) .ret .skip)) .skip)) (pdqT N))))))))))))
def sort (N:SN):BC:=z [m 3 0,u 4 .len 3,m 2 4] [0,2] (.ops [m 5 0,m 6 2,m 7 2,u 8 (.conv .u64) 7,g 9 N.len [.t 8],g 10 N.pdq [.t 5,.c (i 0),.t 6,.t 9]] [])
end SB
structure SH (P:Program) (N:SN) (κ:IntKind):Prop where
 ins:FnIs P N.ins (SB.ins N) [] 3
 rev:FnIs P N.rev (SB.rev N) [] 3
 sift:FnIs P N.sift (SB.sift N) [] 4
 heap:FnIs P N.heap (SB.heap N) [] 3
 parteq:FnIs P N.parteq (SB.parteq N) [.t 8] 4
 part:FnIs P N.part (SB.part N) [.t 8,.t 9] 4
 ord2:FnIs P N.ord2 (SB.ord2 N) [.t 8,.t 9] 4
 med:FnIs P N.med (SB.med N) [.t 10] 5
 medadj:FnIs P N.medadj (SB.medadj N) [.t 6] 3
 piv:FnIs P N.piv (SB.piv N) [.t 6,.t 7] 3
 partins:FnIs P N.partins (SB.partins N) [.t 6] 3
 brk:FnIs P N.brk (SB.brk N) [] 3
 pdq:FnIs P N.pdq (SB.pdq N) [] 4
 sort:FnIs P N.sort (SB.sort N) [] 1
 less:∀ x y:Int,Pur P N.less [.int κ x,.int κ y] (.bool (decide (cfU x y<0)))
 len:∀ (x:Nat) (hx:x<18446744073709551616),Pur P N.len [.int .u64 x] (.int .i64 (bitsLen x:Nat))
 npow:∀ (n:Nat) (hn:n<4611686018427387904),Pur P N.npow [.int .i64 n] (.int .u64 (1 <<<bitsLen n:Nat))
 next:∀ (X:Nat) (hX:X<18446744073709551616) (σ:Store) (i:Nat) (hi:σ i=some (.box [.int .u64 X])),ACalls P N.next [.ptr i 0] σ (fun r s=>r = .int .u64 (xorNextN X:Nat)∧s=σ.set i (.box [.int .u64 (xorNextN X:Nat)]))
end Go.Am
namespace Go.Am
open Go.Sort
set_option linter.unusedSectionVars false
variable {β:Type} [Inhabited β]
def arrA (k:Nat) (c:β→List AV) (d:Array β):Obj := .arr k (d.toList.map c)
theorem zk {k:Nat} {c:β→List AV} {d:Array β}:arrO k (some (arrA k c d))=some (d.toList.map c):=zal
theorem zm {c:β→List AV} {d:Array β} {j:Nat} {K:List AV→Prop}:wit ((d.toList.map c)[j]?) K↔j<d.size∧K (c d[j]!):=by
 rw [z8]
 constructor
 ·rintro ⟨h,k⟩
  have h':j<d.size:=by simpa using h
  refine ⟨h',?_⟩
  rw [getElem!_pos d j h']
  simpa using k
 ·rintro ⟨h,k⟩
  refine ⟨by simpa using h,?_⟩
  rw [getElem!_pos d j h] at k
  simpa using k
theorem zf {c:β→List AV} {d:Array β} {j:Nat} {x:β}:(d.toList.map c).set j (c x)=(d.setIfInBounds j x).toList.map c:=by simp [List.map_set]
theorem zg {k:Nat} {c:β→List AV} {d:Array β}:Obj.arr k (d.toList.map c)=arrA k c d:=rfl
theorem xl:∀ (a b:List AV),a.length=b.length→splice 0 a b=some a
 | [],[],_=>rfl
 | a::l,b::m,h=>by
   have:=xl l m (by simpa using h)
   simp [splice,this]
theorem za (d:Array β) (i j:Nat):(swp d i j).size=d.size:=by simp [swp]
theorem zi {κ:IntKind} {d:Array Int} {j:Nat} {x:Int}:(d.toList.map (cK κ)).set j [.int κ x]=(d.setIfInBounds j x).toList.map (cK κ):=zf (c:=cK κ)
variable {P:Program} {N:SN} {κ:IntKind}
section
theorem zfq (H:SH P N κ) (d:Array Int) (a b:Nat) (hab:a≤b) (hb:b≤d.size) (hs:d.size<4611686018427387904) (σ:Store) (id:Nat) :
 ACalls P N.ins [.os id 1 0 d.size,.int .i64 a,.int .i64 b] (σ.set id (arrA 1 (cK κ) d)) (fun r s=>r = .tup []∧s=σ.set id (arrA 1 (cK κ) (insertionSort ltU d a b))):=by
 refine y6 H.ins (Nat.le_refl _) ?_
 simp only [SB.ins]
 simp only [cK,zi,↓vcPre,↓zm,↓reduceIte,vcPost,vcStd,Store.set_set,zk,zf,zg,za,Nat.le_refl,Nat.zero_add,Array.size_setIfInBounds,Nat.reduceEqDiff,reduceCtorEq,Nat.reduceAdd,Nat.reduceLeDiff,Int.reduceLT,Int.reduceLE,↓u_setN]
 rw [zd (by unfold I64;omega)]
 refine LoopQ.inv (S:=Nat×Array Int) (fun s=>[(0,.os id 1 0 d.size),(1,.int .i64 a),(2,.int .i64 b),(6,.int .i64 s.1)]) (fun s=>σ.set id (arrA 1 (cK κ) s.2))
  (fun s=>a+1≤s.1∧s.1≤d.size+1∧s.2.size=d.size∧insOuter ltU a b s.1 s.2=insertionSort ltU d a b) (fun s=>d.size+2 - s.1) (a+1,d) (by simp) (Store.sub_refl _) ⟨by simp,by simp;omega,rfl,rfl⟩ ?_
 rintro ⟨i,d1⟩ ⟨h1,h2,h3,h4⟩
 simp only at h1 h2 h3 h4
 simp only [cK,zi,↓vcPre,↓zm,↓reduceIte,vcPost,vcStd,Store.set_set,zk,zf,zg,za,Nat.le_refl,Nat.zero_add,Array.size_setIfInBounds,Nat.reduceEqDiff,reduceCtorEq,Nat.reduceAdd,Nat.reduceLeDiff,Int.reduceLT,Int.reduceLE,↓u_setN]
 refine ⟨fun h5 => ?_,fun h5 => ?_⟩
 ·refine LoopQ.inv (S:=Nat×Array Int) (fun s=>[(0,.os id 1 0 d.size),(1,.int .i64 a),(2,.int .i64 b),(6,.int .i64 i),(7,.int .i64 s.1)]) (fun s=>σ.set id (arrA 1 (cK κ) s.2))
   (fun s=>a≤s.1∧s.1≤i∧s.2.size=d.size∧insInner ltU a s.1 s.2=insInner ltU a i d1) (fun s=>s.1) (i,d1) rfl (Store.sub_refl _) ⟨by simp only;omega,by simp only;omega,h3,rfl⟩ ?_
  rintro ⟨j,d2⟩ ⟨g1,g2,g3,g4⟩
  simp only at g1 g2 g3 g4
  simp only [cK,zi,g3,↓vcPre,↓zm,↓reduceIte,vcPost,vcStd,Store.set_set,zk,zf,zg,za,Nat.le_refl,Nat.zero_add,Array.size_setIfInBounds,Nat.reduceEqDiff,reduceCtorEq,Nat.reduceAdd,Nat.reduceLeDiff,Int.reduceLT,Int.reduceLE,↓u_setN]
  refine ⟨fun a1 => ?_,fun a1 => ?_⟩
  ·obtain ⟨m,rfl⟩:∃ m,j=m+1:=⟨j - 1,by omega⟩
   have w1:IntKind.i64.wrap (((m+1:Nat):Int) - 1)=(m:Int):=by rw [zd (by unfold I64;omega)];omega
   simp only [w1,Int.toNat_natCast]
   refine ⟨by omega,⟨by omega,by omega⟩,by omega,by omega,(H.less _ _).Q ?_⟩
   simp only [cK,zi,g3,w1,↓vcPre,↓zm,↓reduceIte,vcPost,vcStd,Store.set_set,zk,zf,zg,za,Nat.le_refl,Nat.zero_add,Array.size_setIfInBounds,Nat.reduceEqDiff,reduceCtorEq,Nat.reduceAdd,Nat.reduceLeDiff,Int.reduceLT,Int.reduceLE,↓u_setN]
   have hlt:ltU d2[m+1]! d2[m]! = decide (cfU d2[m+1]! d2[m]! < 0):=rfl
   rw [insInner] at g4
   refine ⟨fun a2 => ?_,fun a2 => ?_⟩
   ·rw [hlt,decide_eq_true a2,decide_eq_true (show m+1>a by omega)] at g4
    refine ⟨by omega,by omega,by omega,by omega,by omega,by omega,by omega,by omega,?_⟩
    refine NextQ.to (m,swp d2 (m+1) m) ?_ ?_ ?_ ?_
    ·rfl
    ·exact Store.sub_refl _
    ·simp
    ·exact ⟨by simp only;omega,by simp only;omega,by simp only [za];omega,by simpa using g4⟩
   ·rw [hlt,decide_eq_false a2] at g4
    rw [zd (n:=(i:Int)+1) (by unfold I64;omega)]
    refine NextQ.to (i+1,d2) ?_ ?_ ?_ ?_
    ·rfl
    ·exact Store.sub_refl _
    ·simp only;omega
    ·refine ⟨by simp only;omega,by simp only;omega,by simp only;omega,?_⟩
     have g5:d2=insInner ltU a i d1:=by simpa using g4
     simp only
     rw [←h4,insOuter.eq_1 ltU a b i,if_pos h5,g5]
  ·rw [zd (n:=(i:Int)+1) (by unfold I64;omega)]
   refine NextQ.to (i+1,d2) ?_ ?_ ?_ ?_
   ·rfl
   ·exact Store.sub_refl _
   ·simp only;omega
   ·refine ⟨by simp only;omega,by simp only;omega,by simp only;omega,?_⟩
    have:d2=insInner ltU a i d1:=by
     rw [←g4]
     have:j=a:=by omega
     subst this
     cases j with
     | zero=>rfl
     | succ j=>simp [insInner]
    simp only
    rw [←h4,insOuter.eq_1 ltU a b i,if_pos h5,this]
 ·refine EndQ.to _ _ rfl (Store.sub_refl _) ⟨rfl,?_⟩
  rw [←h4,insOuter,if_neg h5]
end
end Go.Am
namespace Go.Am
open Go.Sort
theorem z0f (x k:Nat) (hk:k≤64):shrInt .u64 (x:Int) (k:Int)=((x / 2 ^ k:Nat):Int):=by
 unfold shrInt
 have:min ((k:Int).toNat) IntKind.u64.bits=k:=by simp [IntKind.bits];omega
 rw [this]
 have e:((2:Int) ^ k)=((2 ^ k:Nat):Int):=by simp
 rw [e,Int.fdiv_eq_ediv_of_nonneg _ (Int.natCast_nonneg _)]
 simp
theorem ug {x k:Nat} (h:2 ^ k≤x):bitsLen x=k+bitsLen (x / 2 ^ k):=by
 have key:∀ m,bitsLen x≤m↔k+bitsLen (x / 2 ^ k)≤m:=fun m=>by
  rw [bitsLen_le_iff]
  rcases Nat.lt_or_ge m k with hm | hm
  ·have h1:2 ^ m≤2 ^ k:=Nat.pow_le_pow_right (by omega) (by omega)
   constructor <;> intro h2 <;> omega
  ·have e:k+bitsLen (x / 2 ^ k)≤m↔bitsLen (x / 2 ^ k)≤m - k:=by omega
   rw [e,bitsLen_le_iff,Nat.div_lt_iff_lt_mul (Nat.two_pow_pos k),←Nat.pow_add]
   rw [show m - k+k=m by omega]
 have h1:=(key (bitsLen x)).1 (Nat.le_refl _)
 have h2:=(key (k+bitsLen (x / 2 ^ k))).2 (Nat.le_refl _)
 omega
theorem z6r {n:Nat} (h:n<9223372036854775808):IntKind.i64.wrap (n:Int)=n:=zd (by unfold I64;omega)
theorem zj1 {n:Nat} (h:n<256):IntKind.u8.wrap (n:Int)=n:=by simp [IntKind.wrap,IntKind.bits,IntKind.signed];omega
theorem z1s {n:Nat} (h:n<18446744073709551616):IntKind.u64.wrap (n:Int)=n:=by simp [IntKind.wrap,IntKind.bits,IntKind.signed];omega
theorem zbm (k:Nat) (hk:k≤63):shlInt .u64 1 (k:Int)=((1 <<<k:Nat):Int):=by
 unfold shlInt
 have:min ((k:Int).toNat) IntKind.u64.bits=k:=by simp [IntKind.bits];omega
 rw [this,Int.one_mul]
 have h:(2:Nat) ^ k≤2 ^ 63:=Nat.pow_le_pow_right (by decide) hk
 have e:((2:Int) ^ k)=((2 ^ k:Nat):Int):=by simp
 rw [e,z1s (by omega),Nat.one_shiftLeft]
theorem z2a (a b:Nat) (ha:a<18446744073709551616) (hb:b<18446744073709551616):bitInt .xor .u64 (a:Int) (b:Int)=((a ^^^ b:Nat):Int):=by
 have:=bits_xor_u64_nat a b ha hb
 rw [←this]
 rfl
theorem z5b (x k:Nat) (hk:k≤64):shlInt .u64 (x:Int) (k:Int)=((x*2 ^ k % 18446744073709551616:Nat):Int):=by
 unfold shlInt
 have:min ((k:Int).toNat) IntKind.u64.bits=k:=by simp [IntKind.bits];omega
 rw [this]
 have e:((2:Int) ^ k)=((2 ^ k:Nat):Int):=by simp
 rw [e]
 simp [IntKind.wrap,IntKind.bits,IntKind.signed]
end Go.Am
namespace Go.Am
open Go.Sort
set_option linter.unusedSectionVars false
variable {P:Program} {N:SN} {κ:IntKind}
theorem z5w (H:SH P N κ) (d:Array Int) (a b:Nat) (hab:a≤b) (hb:b≤d.size) (hs:d.size<4611686018427387904) (σ:Store) (id:Nat) :
 ACalls P N.rev [.os id 1 0 d.size,.int .i64 a,.int .i64 b] (σ.set id (arrA 1 (cK κ) d)) (fun r s=>r = .tup []∧s=σ.set id (arrA 1 (cK κ) (reverseRange d a b))):=by
 refine y6 H.rev (Nat.le_refl _) ?_
 simp only [SB.rev]
 simp only [cK,zi,↓vcPre,↓zm,↓reduceIte,vcPost,vcStd,Store.set_set,zk,zf,zg,za,Nat.le_refl,Nat.zero_add,Array.size_setIfInBounds,Nat.reduceEqDiff,reduceCtorEq,Nat.reduceAdd,Nat.reduceLeDiff,Int.reduceLT,Int.reduceLE,↓u_setN]
 have e0:IntKind.i64.wrap ((b:Int) - 1)=(b:Int) - 1:=zd (by unfold I64;omega)
 rw [e0]
 refine LoopQ.inv (S:=Nat×Nat×Array Int) (fun s=>[(0,.os id 1 0 d.size),(6,.int .i64 s.1),(7,.int .i64 ((s.2.1:Int) - 1))]) (fun s=>σ.set id (arrA 1 (cK κ) s.2.2))
  (fun s=>s.1≤d.size∧s.2.1≤d.size∧s.2.2.size=d.size∧reverseLoop s.1 (s.2.1 - 1) s.2.2=reverseRange d a b) (fun s=>s.2.1) (a,b,d) rfl (Store.sub_refl _) ⟨by simp only;omega,by simp only;omega,rfl,rfl⟩ ?_
 rintro ⟨i,j,d1⟩ ⟨h1,h2,h3,h4⟩
 simp only at h1 h2 h3 h4
 simp only [cK,zi,h3,↓vcPre,↓zm,↓reduceIte,vcPost,vcStd,Store.set_set,zk,zf,zg,za,Nat.le_refl,Nat.zero_add,Array.size_setIfInBounds,Nat.reduceEqDiff,reduceCtorEq,Nat.reduceAdd,Nat.reduceLeDiff,Int.reduceLT,Int.reduceLE,↓u_setN]
 rw [reverseLoop] at h4
 refine ⟨fun a1 => ?_,fun a1 => ?_⟩
 ·obtain ⟨m,rfl⟩:∃ m,j=m+1:=⟨j - 1,by omega⟩
  have e1:((m+1:Nat):Int) - 1=m:=by omega
  simp only [e1,Int.toNat_natCast]
  rw [if_pos (by omega)] at h4
  have e2:IntKind.i64.wrap ((i:Int)+1)=((i+1:Nat):Int):=by rw [zd (by unfold I64;omega)];omega
  have e3:IntKind.i64.wrap ((m:Int) - 1)=(m:Int) - 1:=zd (by unfold I64;omega)
  rw [e2,e3]
  and_intros <;> try omega
  refine NextQ.to (i+1,m,swp d1 i m) ?_ ?_ ?_ ?_
  ·rfl
  ·exact Store.sub_refl _
  ·simp
  ·refine ⟨by simp only;omega,by simp only;omega,by simp only [za];omega,?_⟩
   simpa using h4
 ·rw [if_neg (by omega)] at h4
  exact EndQ.to _ _ rfl (Store.sub_refl _) ⟨rfl,by rw [h4]⟩
theorem z71 (H:SH P N κ) (d:Array Int) (lo hi first:Nat) (hb:first+hi≤d.size) (hs:d.size<2305843009213693952) (hlo:lo≤d.size) (σ:Store) (id:Nat) :
 ACalls P N.sift [.os id 1 0 d.size,.int .i64 lo,.int .i64 hi,.int .i64 first] (σ.set id (arrA 1 (cK κ) d)) (fun r s=>r = .tup []∧s=σ.set id (arrA 1 (cK κ) (siftDown ltU hi first lo d))):=by
 refine y6 H.sift (Nat.le_refl _) ?_
 simp only [SB.sift]
 simp only [cK,zi,↓vcPre,↓zm,↓reduceIte,vcPost,vcStd,Store.set_set,zk,zf,zg,za,Nat.le_refl,Nat.zero_add,Array.size_setIfInBounds,Nat.reduceEqDiff,reduceCtorEq,Nat.reduceAdd,Nat.reduceLeDiff,Int.reduceLT,Int.reduceLE,↓u_setN]
 refine LoopQ.inv (S:=Nat×Array Int) (fun s=>[(0,.os id 1 0 d.size),(2,.int .i64 hi),(3,.int .i64 first),(8,.int .i64 s.1)]) (fun s=>σ.set id (arrA 1 (cK κ) s.2))
  (fun s=>s.1≤d.size∧s.2.size=d.size∧siftDown ltU hi first s.1 s.2=siftDown ltU hi first lo d) (fun s=>d.size+1 - s.1) (lo,d) rfl (Store.sub_refl _) ⟨hlo,rfl,rfl⟩ ?_
 rintro ⟨r,d1⟩ ⟨h1,h2,h3⟩
 simp only at h1 h2 h3
 have e1:IntKind.i64.wrap (IntKind.i64.wrap (2*(r:Int))+1)=((2*r+1:Nat):Int):=by rw [zd (n:=2*(r:Int)) (by unfold I64;omega),zd (by unfold I64;omega)];omega
 have e2:IntKind.i64.wrap (((2*r+1:Nat):Int)+1)=((2*r+2:Nat):Int):=by rw [zd (by unfold I64;omega)];omega
 have e3:IntKind.i64.wrap ((first:Int)+((2*r+1:Nat):Int))=((first+(2*r+1):Nat):Int):=by rw [zd (by unfold I64;omega)];omega
 have e4:IntKind.i64.wrap (((first+(2*r+1):Nat):Int)+1)=((first+(2*r+1)+1:Nat):Int):=by rw [zd (by unfold I64;omega)];omega
 have e5:IntKind.i64.wrap ((first:Int)+(r:Int))=((first+r:Nat):Int):=by rw [zd (by unfold I64;omega)];omega
 have e6:IntKind.i64.wrap ((first:Int)+((2*r+2:Nat):Int))=((first+(2*r+2):Nat):Int):=by rw [zd (by unfold I64;omega)];omega
 simp only [cK,zi,h2,e1,e2,e3,e4,e5,e6,↓vcPre,↓zm,↓reduceIte,vcPost,vcStd,Store.set_set,zk,zf,zg,za,Nat.le_refl,Nat.zero_add,Array.size_setIfInBounds,Nat.reduceEqDiff,reduceCtorEq,Nat.reduceAdd,Nat.reduceLeDiff,Int.reduceLT,Int.reduceLE,↓u_setN]
 rw [siftDown] at h3
 refine ⟨fun a1 => ?_,fun a1=>⟨fun a2 => ?_,fun a2 => ?_⟩⟩
 ·rw [dif_pos (by omega)] at h3
  exact EndQ.to _ _ rfl (Store.sub_refl _) ⟨rfl,by rw [h3]⟩
 ·rw [dif_neg (by omega)] at h3
  and_intros <;> try omega
  refine (H.less _ _).Q ?_
  simp only [cK,zi,h2,e1,e2,e3,e4,e5,e6,↓vcPre,↓zm,↓reduceIte,vcPost,vcStd,Store.set_set,zk,zf,zg,za,Nat.le_refl,Nat.zero_add,Array.size_setIfInBounds,Nat.reduceEqDiff,reduceCtorEq,Nat.reduceAdd,Nat.reduceLeDiff,Int.reduceLT,Int.reduceLE,↓u_setN]
  refine ⟨fun a3 => ?_,fun a3 => ?_⟩
  ·have hl:ltU d1[first+(2*r+1)]! d1[first+(2*r+1)+1]! = true:=decide_eq_true a3
   rw [if_pos (by simp [hl,a2])] at h3
   and_intros <;> try omega
   refine (H.less _ _).Q ?_
   simp only [cK,zi,h2,e1,e2,e3,e4,e5,e6,↓vcPre,↓zm,↓reduceIte,vcPost,vcStd,Store.set_set,zk,zf,zg,za,Nat.le_refl,Nat.zero_add,Array.size_setIfInBounds,Nat.reduceEqDiff,reduceCtorEq,Nat.reduceAdd,Nat.reduceLeDiff,Int.reduceLT,Int.reduceLE,↓u_setN]
   refine ⟨fun a5 => ?_,fun a5 => ?_⟩
   ·have hl2:ltU d1[first+r]! d1[first+(2*r+2)]! = false:=decide_eq_false a5
    rw [if_pos (by simp [hl2])] at h3
    exact EndQ.to _ _ rfl (Store.sub_refl _) ⟨rfl,by rw [h3]⟩
   ·have hl2:ltU d1[first+r]! d1[first+(2*r+2)]! = true:=decide_eq_true (by omega)
    rw [if_neg (by simp [hl2])] at h3
    try rw [dif_pos (by omega)] at h3
    and_intros <;> try omega
    refine NextQ.to (2*r+2,swp d1 (first+r) (first+(2*r+2))) ?_ ?_ ?_ ?_
    ·rfl
    ·exact Store.sub_refl _
    ·simp only;omega
    ·exact ⟨by simp only;omega,by simp only [za];omega,h3⟩
  ·have hl:ltU d1[first+(2*r+1)]! d1[first+(2*r+1)+1]! = false:=decide_eq_false a3
   rw [if_neg (by simp [hl])] at h3
   and_intros <;> try omega
   refine (H.less _ _).Q ?_
   simp only [cK,zi,h2,e1,e2,e3,e4,e5,e6,↓vcPre,↓zm,↓reduceIte,vcPost,vcStd,Store.set_set,zk,zf,zg,za,Nat.le_refl,Nat.zero_add,Array.size_setIfInBounds,Nat.reduceEqDiff,reduceCtorEq,Nat.reduceAdd,Nat.reduceLeDiff,Int.reduceLT,Int.reduceLE,↓u_setN]
   refine ⟨fun a5 => ?_,fun a5 => ?_⟩
   ·have hl2:ltU d1[first+r]! d1[first+(2*r+1)]! = false:=decide_eq_false a5
    rw [if_pos (by simp [hl2])] at h3
    exact EndQ.to _ _ rfl (Store.sub_refl _) ⟨rfl,by rw [h3]⟩
   ·have hl2:ltU d1[first+r]! d1[first+(2*r+1)]! = true:=decide_eq_true (by omega)
    rw [if_neg (by simp [hl2])] at h3
    try rw [dif_pos (by omega)] at h3
    and_intros <;> try omega
    refine NextQ.to (2*r+1,swp d1 (first+r) (first+(2*r+1))) ?_ ?_ ?_ ?_
    ·rfl
    ·exact Store.sub_refl _
    ·simp only;omega
    ·exact ⟨by simp only;omega,by simp only [za];omega,h3⟩
 ·rw [dif_neg (by omega),if_neg (by simp;omega)] at h3
  and_intros <;> try omega
  refine (H.less _ _).Q ?_
  simp only [cK,zi,h2,e1,e2,e3,e4,e5,e6,↓vcPre,↓zm,↓reduceIte,vcPost,vcStd,Store.set_set,zk,zf,zg,za,Nat.le_refl,Nat.zero_add,Array.size_setIfInBounds,Nat.reduceEqDiff,reduceCtorEq,Nat.reduceAdd,Nat.reduceLeDiff,Int.reduceLT,Int.reduceLE,↓u_setN]
  refine ⟨fun a5 => ?_,fun a5 => ?_⟩
  ·have hl2:ltU d1[first+r]! d1[first+(2*r+1)]! = false:=decide_eq_false a5
   rw [if_pos (by simp [hl2])] at h3
   exact EndQ.to _ _ rfl (Store.sub_refl _) ⟨rfl,by rw [h3]⟩
  ·have hl2:ltU d1[first+r]! d1[first+(2*r+1)]! = true:=decide_eq_true (by omega)
   rw [if_neg (by simp [hl2])] at h3
   try rw [dif_pos (by omega)] at h3
   and_intros <;> try omega
   refine NextQ.to (2*r+1,swp d1 (first+r) (first+(2*r+1))) ?_ ?_ ?_ ?_
   ·rfl
   ·exact Store.sub_refl _
   ·simp only;omega
   ·exact ⟨by simp only;omega,by simp only [za];omega,h3⟩
end Go.Am
namespace Go.Am
open Go.Sort
set_option linter.unusedSectionVars false
variable {P:Program} {N:SN} {κ:IntKind}
theorem qm (lt:Int→Int→Bool) (hi first r:Nat) (d:Array Int):(siftDown lt hi first r d).size=d.size:=by
 fun_induction siftDown lt hi first r d <;> simp_all [za]
theorem zde (H:SH P N κ) (d:Array Int) (a b:Nat) (hab:a≤b) (hb:b≤d.size) (hs:d.size<2305843009213693952) (σ:Store) (id:Nat) :
 ACalls P N.heap [.os id 1 0 d.size,.int .i64 a,.int .i64 b] (σ.set id (arrA 1 (cK κ) d)) (fun r s=>r = .tup []∧s=σ.set id (arrA 1 (cK κ) (heapSort ltU d a b))):=by
 refine y6 H.heap (Nat.le_refl _) ?_
 simp only [SB.heap]
 simp only [cK,zi,↓vcPre,↓zm,↓reduceIte,vcPost,vcStd,Store.set_set,zk,zf,zg,za,Nat.le_refl,Nat.zero_add,Array.size_setIfInBounds,Nat.reduceEqDiff,reduceCtorEq,Nat.reduceAdd,Nat.reduceLeDiff,Int.reduceLT,Int.reduceLE,↓u_setN]
 have e1:IntKind.i64.wrap ((b:Int) - a)=((b - a:Nat):Int):=by rw [zd (by unfold I64;omega)];omega
 have e2:IntKind.i64.wrap (((b - a:Nat):Int) - 1)=((b - a:Nat):Int) - 1:=zd (by unfold I64;omega)
 have e3:IntKind.i64.wrap ((((b - a:Nat):Int) - 1).tdiv 2)=(((b - a - 1) / 2+1:Nat):Int) - 1:=by
  have:(((b - a:Nat):Int) - 1).tdiv 2=(((b - a - 1) / 2:Nat):Int):=by
   by_cases h:b - a=0
   ·rw [h];decide
   ·rw [Int.tdiv_eq_ediv_of_nonneg (by omega)];omega
  rw [this,zd (by unfold I64;omega)];omega
 rw [e1,e2,e3]
 refine ⟨by omega,?_⟩
 refine LoopQ.inv (S:=Nat×Array Int) (fun s=>[(0,.os id 1 0 d.size),(6,.int .i64 a),(7,.int .i64 0),(8,.int .i64 ((b - a:Nat):Int)),(9,.int .i64 ((s.1:Int) - 1))]) (fun s=>σ.set id (arrA 1 (cK κ) s.2))
  (fun s=>s.1≤d.size+1∧s.2.size=d.size∧heapBuild ltU (b - a) a s.1 s.2=heapBuild ltU (b - a) a ((b - a - 1) / 2+1) d) (fun s=>s.1) ((b - a - 1) / 2+1,d) rfl (Store.sub_refl _) ⟨by simp only;omega,rfl,rfl⟩ ?_
 rintro ⟨k,d1⟩ ⟨h1,h2,h3⟩
 simp only at h1 h2 h3
 simp only [cK,zi,h2,e2,↓vcPre,↓zm,↓reduceIte,vcPost,vcStd,Store.set_set,zk,zf,zg,za,Nat.le_refl,Nat.zero_add,Array.size_setIfInBounds,Nat.reduceEqDiff,reduceCtorEq,Nat.reduceAdd,Nat.reduceLeDiff,Int.reduceLT,Int.reduceLE,↓u_setN]
 refine ⟨fun a1 => ?_,fun a1 => ?_⟩
 ·obtain ⟨m,rfl⟩:∃ m,k=m+1:=⟨k - 1,by omega⟩
  have e4:((m+1:Nat):Int) - 1=m:=by omega
  rw [e4]
  have h5:=z71 H d1 m (b - a) a (by omega) (by omega) (by omega) σ id
  rw [h2] at h5
  refine h5.Q ?_
  rintro r s ⟨rfl,rfl⟩
  have e5:IntKind.i64.wrap ((m:Int) - 1)=(m:Int) - 1:=zd (by unfold I64;omega)
  simp only [cK,zi,h2,e5,e4,↓vcPre,↓zm,↓reduceIte,vcPost,vcStd,Store.set_set,zk,zf,zg,za,Nat.le_refl,Nat.zero_add,Array.size_setIfInBounds,Nat.reduceEqDiff,reduceCtorEq,Nat.reduceAdd,Nat.reduceLeDiff,Int.reduceLT,Int.reduceLE,↓u_setN]
  refine NextQ.to (m,siftDown ltU (b - a) a m d1) ?_ ?_ ?_ ?_
  ·rfl
  ·exact Store.sub_refl _
  ·simp
  ·exact ⟨by simp only;omega,by simp only [qm];omega,h3⟩
 ·have hk0:k=0:=by omega
  subst hk0
  have h3:d1=heapBuild ltU (b - a) a ((b - a - 1) / 2+1) d:=h3
  have hd:heapSort ltU d a b=heapPop ltU a (b - a) d1:=by rw [heapSort,h3]
  rw [hd]
  clear h3 hd
  refine LoopQ.inv (S:=Nat×Array Int) (fun s=>[(0,.os id 1 0 d.size),(6,.int .i64 a),(7,.int .i64 0),(10,.int .i64 ((s.1:Int) - 1))]) (fun s=>σ.set id (arrA 1 (cK κ) s.2))
   (fun s=>s.1≤b - a∧s.2.size=d.size∧heapPop ltU a s.1 s.2=heapPop ltU a (b - a) d1) (fun s=>s.1) (b - a,d1) rfl (Store.sub_refl _) ⟨by simp only;omega,h2,rfl⟩ ?_
  rintro ⟨k,d2⟩ ⟨g1,g2,g3⟩
  simp only at g1 g2 g3
  simp only [cK,zi,g2,↓vcPre,↓zm,↓reduceIte,vcPost,vcStd,Store.set_set,zk,zf,zg,za,Nat.le_refl,Nat.zero_add,Array.size_setIfInBounds,Nat.reduceEqDiff,reduceCtorEq,Nat.reduceAdd,Nat.reduceLeDiff,Int.reduceLT,Int.reduceLE,↓u_setN]
  refine ⟨fun a1 => ?_,fun a1 => ?_⟩
  ·obtain ⟨m,rfl⟩:∃ m,k=m+1:=⟨k - 1,by omega⟩
   have e4:((m+1:Nat):Int) - 1=m:=by omega
   have e6:IntKind.i64.wrap ((a:Int)+m)=((a+m:Nat):Int):=by rw [zd (by unfold I64;omega)];omega
   simp only [e4,e6,Int.toNat_natCast]
   and_intros <;> try omega
   have h5:=z71 H (swp d2 a (a+m)) 0 m a (by rw [za];omega) (by rw [za];omega) (by omega) σ id
   rw [za,g2] at h5
   refine h5.Q ?_
   rintro r s ⟨rfl,rfl⟩
   have e5:IntKind.i64.wrap ((m:Int) - 1)=(m:Int) - 1:=zd (by unfold I64;omega)
   simp only [cK,zi,g2,e5,e4,↓vcPre,↓zm,↓reduceIte,vcPost,vcStd,Store.set_set,zk,zf,zg,za,Nat.le_refl,Nat.zero_add,Array.size_setIfInBounds,Nat.reduceEqDiff,reduceCtorEq,Nat.reduceAdd,Nat.reduceLeDiff,Int.reduceLT,Int.reduceLE,↓u_setN]
   refine NextQ.to (m,siftDown ltU m a 0 (swp d2 a (a+m))) ?_ ?_ ?_ ?_
   ·rfl
   ·exact Store.sub_refl _
   ·simp
   ·exact ⟨by simp only;omega,by simp only [qm,za];omega,g3⟩
  ·have hk0:k=0:=by omega
   subst hk0
   exact EndQ.to _ _ rfl (Store.sub_refl _) ⟨rfl,by rw [←g3];rfl⟩
end Go.Am
namespace Go.Am
open Go.Sort
set_option linter.unusedSectionVars false
variable {P:Program} {N:SN} {κ:IntKind}
theorem wI {n:Int} {m:Nat} (h:n=m) (hm:m<4611686018427387904):IntKind.i64.wrap n=(m:Int):=by rw [zd (by unfold I64;omega),h]
theorem z7m (p:Int→Bool) (d:Array Int) (j:Nat):∀ i,i≤scanUp p d j i:=by
 intro i
 fun_induction scanUp p d j i <;> omega
theorem ym (p:Int→Bool) (d:Array Int) (i j:Nat) (h:¬ i≤j):scanDown p d i j=j:=by
 cases j with
 | zero=>rfl
 | succ j=>rw [scanDown,if_neg (by simp;omega)]
theorem z94 (H:SH P N κ) (d:Array Int) (a b pivot:Nat) (hab:a≤pivot) (hpb:pivot<b) (hb:b≤d.size) (hs:d.size<2305843009213693952) (σ:Store) (id:Nat) :
 ACalls P N.parteq [.os id 1 0 d.size,.int .i64 a,.int .i64 b,.int .i64 pivot] (σ.set id (arrA 1 (cK κ) d)) (fun r s=>r = .int .i64 (partitionEqual ltU d a b pivot).1∧s=σ.set id (arrA 1 (cK κ) (partitionEqual ltU d a b pivot).2)):=by
 refine y6 H.parteq (Nat.le_refl _) ?_
 simp only [SB.parteq]
 simp only [cK,zi,↓vcPre,↓zm,↓reduceIte,vcPost,vcStd,Store.set_set,zk,zf,zg,za,Nat.le_refl,Nat.zero_add,Array.size_setIfInBounds,Nat.reduceEqDiff,reduceCtorEq,Nat.reduceAdd,Nat.reduceLeDiff,Int.reduceLT,Int.reduceLE,↓u_setN]
 and_intros <;> try omega
 have e1:IntKind.i64.wrap ((a:Int)+1)=((a+1:Nat):Int):=wI (by omega) (by omega)
 have e2:IntKind.i64.wrap ((b:Int) - 1)=((b - 1:Nat):Int):=wI (by omega) (by omega)
 rw [e1,e2]
 refine LoopQ.inv (S:=Nat×Nat×Array Int) (fun s=>[(0,.os id 1 0 d.size),(1,.int .i64 a),(9,.int .i64 s.1),(10,.int .i64 s.2.1)]) (fun s=>σ.set id (arrA 1 (cK κ) s.2.2))
  (fun s=>a<s.1∧s.1≤b∧s.2.1<b∧a≤s.2.1∧s.2.2.size=d.size∧partEqLoop ltU a s.1 s.2.1 s.2.2=partitionEqual ltU d a b pivot) (fun s=>d.size+1 - s.1) (a+1,b - 1,swp d a pivot) rfl (Store.sub_refl _)
  ⟨by simp only;omega,by simp only;omega,by simp only;omega,by simp only;omega,by simp only [za],rfl⟩ ?_
 rintro ⟨i,j,d1⟩ ⟨h1,h2,h3,h4,h5,h6⟩
 simp only at h1 h2 h3 h4 h5 h6
 rw [partEqLoop] at h6
 simp only [cK,zi,h5,↓vcPre,↓zm,↓reduceIte,vcPost,vcStd,Store.set_set,zk,zf,zg,za,Nat.le_refl,Nat.zero_add,Array.size_setIfInBounds,Nat.reduceEqDiff,reduceCtorEq,Nat.reduceAdd,Nat.reduceLeDiff,Int.reduceLT,Int.reduceLE,↓u_setN]
 refine LoopQ.inv (S:=Nat) (fun s=>[(0,.os id 1 0 d.size),(1,.int .i64 a),(9,.int .i64 s),(10,.int .i64 j)]) (fun s=>σ.set id (arrA 1 (cK κ) d1))
  (fun s=>i≤s∧s≤b∧scanUp (fun x => !ltU d1[a]! x) d1 j s=scanUp (fun x => !ltU d1[a]! x) d1 j i) (fun s=>d.size+1 - s) i rfl (Store.sub_refl _) ⟨Nat.le_refl _,h2,rfl⟩ ?_
 rintro i2 ⟨g1,g2,g3⟩
 simp only [cK,zi,h5,↓vcPre,↓zm,↓reduceIte,vcPost,vcStd,Store.set_set,zk,zf,zg,za,Nat.le_refl,Nat.zero_add,Array.size_setIfInBounds,Nat.reduceEqDiff,reduceCtorEq,Nat.reduceAdd,Nat.reduceLeDiff,Int.reduceLT,Int.reduceLE,↓u_setN]
 rw [scanUp] at g3
 refine ⟨fun a1 => ?_,fun a1 => ?_⟩
 ·and_intros <;> try omega
  refine (H.less _ _).Q ?_
  have e3:IntKind.i64.wrap ((i2:Int)+1)=((i2+1:Nat):Int):=wI (by omega) (by omega)
  simp only [cK,zi,h5,e3,↓vcPre,↓zm,↓reduceIte,vcPost,vcStd,Store.set_set,zk,zf,zg,za,Nat.le_refl,Nat.zero_add,Array.size_setIfInBounds,Nat.reduceEqDiff,reduceCtorEq,Nat.reduceAdd,Nat.reduceLeDiff,Int.reduceLT,Int.reduceLE,↓u_setN]
  refine ⟨fun a2 => ?_,fun a2 => ?_⟩
  ·have hl:ltU d1[a]! d1[i2]! = false:=decide_eq_false a2
   rw [if_pos (by simp [hl,a1])] at g3
   refine NextQ.to (i2+1) ?_ ?_ ?_ ?_
   ·rfl
   ·exact Store.sub_refl _
   ·omega
   ·exact ⟨by omega,by omega,g3⟩
  ·have hl:ltU d1[a]! d1[i2]! = true:=decide_eq_true (by omega)
   rw [if_neg (by simp [hl])] at g3
   rw [←g3] at h6
   refine LoopQ.inv (S:=Nat) (fun s=>[(0,.os id 1 0 d.size),(1,.int .i64 a),(9,.int .i64 i2),(10,.int .i64 s)]) (fun s=>σ.set id (arrA 1 (cK κ) d1))
    (fun s=>(i2≤s+1∨s=j)∧s≤j∧scanDown (fun x=>ltU d1[a]! x) d1 i2 s=scanDown (fun x=>ltU d1[a]! x) d1 i2 j) (fun s=>s) j rfl (Store.sub_refl _) ⟨Or.inr rfl,Nat.le_refl _,rfl⟩ ?_
   rintro j2 ⟨k1,k2,k3⟩
   simp only [cK,zi,h5,↓vcPre,↓zm,↓reduceIte,vcPost,vcStd,Store.set_set,zk,zf,zg,za,Nat.le_refl,Nat.zero_add,Array.size_setIfInBounds,Nat.reduceEqDiff,reduceCtorEq,Nat.reduceAdd,Nat.reduceLeDiff,Int.reduceLT,Int.reduceLE,↓u_setN]
   refine ⟨fun b1 => ?_,fun b1 => ?_⟩
   ·obtain ⟨q,rfl⟩:∃ q,j2=q+1:=⟨j2 - 1,by omega⟩
    rw [scanDown] at k3
    and_intros <;> try omega
    refine (H.less _ _).Q ?_
    have e4:IntKind.i64.wrap (((q+1:Nat):Int) - 1)=((q:Nat):Int):=wI (by omega) (by omega)
    simp only [cK,zi,h5,e4,↓vcPre,↓zm,↓reduceIte,vcPost,vcStd,Store.set_set,zk,zf,zg,za,Nat.le_refl,Nat.zero_add,Array.size_setIfInBounds,Nat.reduceEqDiff,reduceCtorEq,Nat.reduceAdd,Nat.reduceLeDiff,Int.reduceLT,Int.reduceLE,↓u_setN]
    refine ⟨fun b2 => ?_,fun b2 => ?_⟩
    ·have hl2:ltU d1[a]! d1[q+1]! = true:=decide_eq_true b2
     rw [if_pos (by simp [hl2,b1])] at k3
     refine NextQ.to q ?_ ?_ ?_ ?_
     ·rfl
     ·exact Store.sub_refl _
     ·omega
     ·exact ⟨Or.inl (by omega),by omega,k3⟩
    ·have hl2:ltU d1[a]! d1[q+1]! = false:=decide_eq_false b2
     rw [if_neg (by simp [hl2])] at k3
     rw [←k3] at h6
     refine ⟨fun c1 => ?_,fun c1 => ?_⟩
     ·rw [if_pos (by omega)] at h6
      exact EndQ.to _ _ rfl (Store.sub_refl _) ⟨by rw [←h6],by rw [←h6]⟩
     ·rw [if_neg (by omega),dif_pos (by omega)] at h6
      and_intros <;> try omega
      have e5:IntKind.i64.wrap ((i2:Int)+1)=((i2+1:Nat):Int):=wI (by omega) (by omega)
      have e6:IntKind.i64.wrap (((q+1:Nat):Int) - 1)=(((q+1) - 1:Nat):Int):=wI (by omega) (by omega)
      try rw [e5]
      try rw [e6]
      refine NextQ.to (i2+1,(q+1) - 1,swp d1 i2 (q+1)) ?_ ?_ ?_ ?_
      ·rfl
      ·exact Store.sub_refl _
      ·simp only;omega
      ·exact ⟨by simp only;omega,by simp only;omega,by simp only;omega,by simp only;omega,by simp only [za];omega,h6⟩
   ·rw [ym _ _ _ _ b1] at k3
    rw [←k3] at h6
    refine ⟨fun c1 => ?_,fun c1=>(by exfalso;omega)⟩
    rw [if_pos (by omega)] at h6
    exact EndQ.to _ _ rfl (Store.sub_refl _) ⟨by rw [←h6],by rw [←h6]⟩
 ·rw [if_neg (by simp;omega)] at g3
  rw [←g3] at h6
  refine LoopQ.inv (S:=Nat) (fun s=>[(0,.os id 1 0 d.size),(1,.int .i64 a),(9,.int .i64 i2),(10,.int .i64 s)]) (fun s=>σ.set id (arrA 1 (cK κ) d1))
   (fun s=>(i2≤s+1∨s=j)∧s≤j∧scanDown (fun x=>ltU d1[a]! x) d1 i2 s=scanDown (fun x=>ltU d1[a]! x) d1 i2 j) (fun s=>s) j rfl (Store.sub_refl _) ⟨Or.inr rfl,Nat.le_refl _,rfl⟩ ?_
  rintro j2 ⟨k1,k2,k3⟩
  simp only [cK,zi,h5,↓vcPre,↓zm,↓reduceIte,vcPost,vcStd,Store.set_set,zk,zf,zg,za,Nat.le_refl,Nat.zero_add,Array.size_setIfInBounds,Nat.reduceEqDiff,reduceCtorEq,Nat.reduceAdd,Nat.reduceLeDiff,Int.reduceLT,Int.reduceLE,↓u_setN]
  refine ⟨fun b1=>(by exfalso;omega),fun b1 => ?_⟩
  rw [ym _ _ _ _ b1] at k3
  rw [←k3] at h6
  refine ⟨fun c1 => ?_,fun c1=>(by exfalso;omega)⟩
  rw [if_pos (by omega)] at h6
  exact EndQ.to _ _ rfl (Store.sub_refl _) ⟨by rw [←h6],by rw [←h6]⟩
end Go.Am
namespace Go.Am
open Go.Sort
set_option linter.unusedSectionVars false
variable {P:Program} {N:SN} {κ:IntKind}
theorem z70 (H:SH P N κ) (d:Array Int) (a b pivot:Nat) (hab:a≤pivot) (hpb:pivot<b) (hb:b≤d.size) (hs:d.size<2305843009213693952) (σ:Store) (id:Nat) :
 ACalls P N.part [.os id 1 0 d.size,.int .i64 a,.int .i64 b,.int .i64 pivot] (σ.set id (arrA 1 (cK κ) d)) (fun r s=>r = .tup [.int .i64 (partition ltU d a b pivot).1,.bool (partition ltU d a b pivot).2.1]∧s=σ.set id (arrA 1 (cK κ) (partition ltU d a b pivot).2.2)):=by
 refine y6 H.part (Nat.le_refl _) ?_
 simp only [SB.part]
 simp only [cK,zi,↓vcPre,↓zm,↓reduceIte,vcPost,vcStd,Store.set_set,zk,zf,zg,za,Nat.le_refl,Nat.zero_add,Array.size_setIfInBounds,Nat.reduceEqDiff,reduceCtorEq,Nat.reduceAdd,Nat.reduceLeDiff,Int.reduceLT,Int.reduceLE,↓u_setN]
 and_intros <;> try omega
 have e1:IntKind.i64.wrap ((a:Int)+1)=((a+1:Nat):Int):=wI (by omega) (by omega)
 have e2:IntKind.i64.wrap ((b:Int) - 1)=((b - 1:Nat):Int):=wI (by omega) (by omega)
 rw [e1,e2]
 rw [show (d.setIfInBounds a d[pivot]!).setIfInBounds pivot d[a]! = swp d a pivot from rfl]
 obtain ⟨d1,hd1⟩:∃ x,x=swp d a pivot:=⟨_,rfl⟩
 obtain ⟨i,hi⟩:∃ x,x=a+1:=⟨_,rfl⟩
 obtain ⟨j,hj⟩:∃ x,x=b - 1:=⟨_,rfl⟩
 have h5:d1.size=d.size:=by rw [hd1,za]
 have h2:i≤b:=by omega
 have h1:a<i:=by omega
 have h3:j<b:=by omega
 have h4:a≤j:=by omega
 rw [←hd1,←hi,←hj]
 clear e1 e2
 refine LoopQ.inv (S:=Nat) (fun s=>[(0,.os id 1 0 d.size),(1,.int .i64 a),(10,.int .i64 s),(11,.int .i64 j)]) (fun s=>σ.set id (arrA 1 (cK κ) d1))
  (fun s=>i≤s∧s≤b∧scanUp (fun x=>ltU x d1[a]!) d1 j s=scanUp (fun x=>ltU x d1[a]!) d1 j i) (fun s=>d.size+1 - s) i rfl (Store.sub_refl _) ⟨Nat.le_refl _,h2,rfl⟩ ?_
 rintro i2 ⟨g1,g2,g3⟩
 simp only [cK,zi,h5,↓vcPre,↓zm,↓reduceIte,vcPost,vcStd,Store.set_set,zk,zf,zg,za,Nat.le_refl,Nat.zero_add,Array.size_setIfInBounds,Nat.reduceEqDiff,reduceCtorEq,Nat.reduceAdd,Nat.reduceLeDiff,Int.reduceLT,Int.reduceLE,↓u_setN]
 rw [scanUp] at g3
 refine ⟨fun a1 => ?_,fun a1 => ?_⟩
 ·and_intros <;> try omega
  refine (H.less _ _).Q ?_
  have e3:IntKind.i64.wrap ((i2:Int)+1)=((i2+1:Nat):Int):=wI (by omega) (by omega)
  simp only [cK,zi,h5,e3,↓vcPre,↓zm,↓reduceIte,vcPost,vcStd,Store.set_set,zk,zf,zg,za,Nat.le_refl,Nat.zero_add,Array.size_setIfInBounds,Nat.reduceEqDiff,reduceCtorEq,Nat.reduceAdd,Nat.reduceLeDiff,Int.reduceLT,Int.reduceLE,↓u_setN]
  refine ⟨fun a2 => ?_,fun a2 => ?_⟩
  ·have hl:ltU d1[i2]! d1[a]! = true:=decide_eq_true a2
   rw [if_pos (by simp [hl,a1])] at g3
   refine NextQ.to (i2+1) ?_ ?_ ?_ ?_
   ·rfl
   ·exact Store.sub_refl _
   ·omega
   ·exact ⟨by omega,by omega,g3⟩
  ·have hl:ltU d1[i2]! d1[a]! = false:=decide_eq_false a2
   rw [if_neg (by simp [hl])] at g3
   refine LoopQ.inv (S:=Nat) (fun s=>[(0,.os id 1 0 d.size),(1,.int .i64 a),(10,.int .i64 i2),(11,.int .i64 s)]) (fun s=>σ.set id (arrA 1 (cK κ) d1))
    (fun s=>(i2≤s+1∨s=j)∧s≤j∧scanDown (fun x => !ltU x d1[a]!) d1 i2 s=scanDown (fun x => !ltU x d1[a]!) d1 i2 j) (fun s=>s) j rfl (Store.sub_refl _) ⟨Or.inr rfl,Nat.le_refl _,rfl⟩ ?_
   rintro j2 ⟨k1,k2,k3⟩
   simp only [cK,zi,h5,↓vcPre,↓zm,↓reduceIte,vcPost,vcStd,Store.set_set,zk,zf,zg,za,Nat.le_refl,Nat.zero_add,Array.size_setIfInBounds,Nat.reduceEqDiff,reduceCtorEq,Nat.reduceAdd,Nat.reduceLeDiff,Int.reduceLT,Int.reduceLE,↓u_setN]
   refine ⟨fun b1 => ?_,fun b1 => ?_⟩
   ·obtain ⟨q,rfl⟩:∃ q,j2=q+1:=⟨j2 - 1,by omega⟩
    rw [scanDown] at k3
    and_intros <;> try omega
    refine (H.less _ _).Q ?_
    have e4:IntKind.i64.wrap (((q+1:Nat):Int) - 1)=((q:Nat):Int):=wI (by omega) (by omega)
    simp only [cK,zi,h5,e4,↓vcPre,↓zm,↓reduceIte,vcPost,vcStd,Store.set_set,zk,zf,zg,za,Nat.le_refl,Nat.zero_add,Array.size_setIfInBounds,Nat.reduceEqDiff,reduceCtorEq,Nat.reduceAdd,Nat.reduceLeDiff,Int.reduceLT,Int.reduceLE,↓u_setN]
    refine ⟨fun b2 => ?_,fun b2 => ?_⟩
    ·have hl2:ltU d1[q+1]! d1[a]! = false:=decide_eq_false b2
     rw [if_pos (by simp [hl2,b1])] at k3
     refine NextQ.to q ?_ ?_ ?_ ?_
     ·rfl
     ·exact Store.sub_refl _
     ·omega
     ·exact ⟨Or.inl (by omega),by omega,k3⟩
    ·have hl2:ltU d1[q+1]! d1[a]! = true:=decide_eq_true (by omega)
     rw [if_neg (by simp [hl2])] at k3
     obtain ⟨j2,hj2⟩:∃ x,x=q+1:=⟨_,rfl⟩
     rw [←hj2] at k1 k2 k3 b1 ⊢
     have hp:partition ltU d a b pivot=if i2>j2 then (j2,true,swp d1 j2 a) else ((partLoop ltU a (i2+1) (j2 - 1) (swp d1 i2 j2)).1,false,swp (partLoop ltU a (i2+1) (j2 - 1) (swp d1 i2 j2)).2 (partLoop ltU a (i2+1) (j2 - 1) (swp d1 i2 j2)).1 a):=by
      subst hd1 hi hj
      rw [partition]
      simp only [←g3,←k3]
     refine ⟨fun c1=>(by exfalso;omega),fun c1 => ?_⟩
     rw [if_neg (by omega)] at hp
     and_intros <;> try omega
     rw [hp]
     clear hp
     have e5:IntKind.i64.wrap ((i2:Int)+1)=((i2+1:Nat):Int):=wI (by omega) (by omega)
     have e6:IntKind.i64.wrap (((j2:Nat):Int) - 1)=((j2 - 1:Nat):Int):=wI (by omega) (by omega)
     try rw [e5]
     try rw [e6]
     rw [show ((q:Nat):Int)=((j2 - 1:Nat):Int) from by omega]
     refine LoopQ.inv (S:=Nat×Nat×Array Int) (fun s=>[(0,.os id 1 0 d.size),(1,.int .i64 a),(10,.int .i64 s.1),(11,.int .i64 s.2.1)]) (fun s=>σ.set id (arrA 1 (cK κ) s.2.2))
      (fun s=>a<s.1∧s.1≤b∧s.2.1<b∧a≤s.2.1∧s.2.2.size=d.size∧partLoop ltU a s.1 s.2.1 s.2.2=partLoop ltU a (i2+1) (j2 - 1) (swp d1 i2 j2)) (fun s=>d.size+1 - s.1) (i2+1,j2 - 1,swp d1 i2 j2) rfl (Store.sub_refl _)
      ⟨by simp only;omega,by simp only;omega,by simp only;omega,by simp only;omega,by simp only [za];omega,rfl⟩ ?_
     obtain ⟨R,hR⟩:∃ x,x=partLoop ltU a (i2+1) (j2 - 1) (swp d1 i2 j2):=⟨_,rfl⟩
     rw [←hR]
     clear hR k1 k2 g1 g2 g3 b1 c1 e5 e6 h1 h2 h3 h4 h5 hi hj hd1 a1
     clear k3
     clear hj2 hl hl2 b2 a2
     clear e3 e4
     clear j2 i2 q
     clear i j d1
     rintro ⟨i,j,d1⟩ ⟨h1,h2,h3,h4,h5,h6⟩
     simp only at h1 h2 h3 h4 h5 h6
     rw [partLoop] at h6
     simp only [cK,zi,h5,↓vcPre,↓zm,↓reduceIte,vcPost,vcStd,Store.set_set,zk,zf,zg,za,Nat.le_refl,Nat.zero_add,Array.size_setIfInBounds,Nat.reduceEqDiff,reduceCtorEq,Nat.reduceAdd,Nat.reduceLeDiff,Int.reduceLT,Int.reduceLE,↓u_setN]
     refine LoopQ.inv (S:=Nat) (fun s=>[(0,.os id 1 0 d.size),(1,.int .i64 a),(10,.int .i64 s),(11,.int .i64 j)]) (fun s=>σ.set id (arrA 1 (cK κ) d1))
      (fun s=>i≤s∧s≤b∧scanUp (fun x=>ltU x d1[a]!) d1 j s=scanUp (fun x=>ltU x d1[a]!) d1 j i) (fun s=>d.size+1 - s) i rfl (Store.sub_refl _) ⟨Nat.le_refl _,h2,rfl⟩ ?_
     rintro i2 ⟨g1,g2,g3⟩
     simp only [cK,zi,h5,↓vcPre,↓zm,↓reduceIte,vcPost,vcStd,Store.set_set,zk,zf,zg,za,Nat.le_refl,Nat.zero_add,Array.size_setIfInBounds,Nat.reduceEqDiff,reduceCtorEq,Nat.reduceAdd,Nat.reduceLeDiff,Int.reduceLT,Int.reduceLE,↓u_setN]
     rw [scanUp] at g3
     refine ⟨fun a1 => ?_,fun a1 => ?_⟩
     ·and_intros <;> try omega
      refine (H.less _ _).Q ?_
      have e3:IntKind.i64.wrap ((i2:Int)+1)=((i2+1:Nat):Int):=wI (by omega) (by omega)
      simp only [cK,zi,h5,e3,↓vcPre,↓zm,↓reduceIte,vcPost,vcStd,Store.set_set,zk,zf,zg,za,Nat.le_refl,Nat.zero_add,Array.size_setIfInBounds,Nat.reduceEqDiff,reduceCtorEq,Nat.reduceAdd,Nat.reduceLeDiff,Int.reduceLT,Int.reduceLE,↓u_setN]
      refine ⟨fun a2 => ?_,fun a2 => ?_⟩
      ·have hl:ltU d1[i2]! d1[a]! = true:=decide_eq_true a2
       rw [if_pos (by simp [hl,a1])] at g3
       refine NextQ.to (i2+1) ?_ ?_ ?_ ?_
       ·rfl
       ·exact Store.sub_refl _
       ·omega
       ·exact ⟨by omega,by omega,g3⟩
      ·have hl:ltU d1[i2]! d1[a]! = false:=decide_eq_false a2
       rw [if_neg (by simp [hl])] at g3
       refine LoopQ.inv (S:=Nat) (fun s=>[(0,.os id 1 0 d.size),(1,.int .i64 a),(10,.int .i64 i2),(11,.int .i64 s)]) (fun s=>σ.set id (arrA 1 (cK κ) d1))
        (fun s=>(i2≤s+1∨s=j)∧s≤j∧scanDown (fun x => !ltU x d1[a]!) d1 i2 s=scanDown (fun x => !ltU x d1[a]!) d1 i2 j) (fun s=>s) j rfl (Store.sub_refl _) ⟨Or.inr rfl,Nat.le_refl _,rfl⟩ ?_
       rintro j2 ⟨k1,k2,k3⟩
       simp only [cK,zi,h5,↓vcPre,↓zm,↓reduceIte,vcPost,vcStd,Store.set_set,zk,zf,zg,za,Nat.le_refl,Nat.zero_add,Array.size_setIfInBounds,Nat.reduceEqDiff,reduceCtorEq,Nat.reduceAdd,Nat.reduceLeDiff,Int.reduceLT,Int.reduceLE,↓u_setN]
       refine ⟨fun b1 => ?_,fun b1 => ?_⟩
       ·obtain ⟨q,rfl⟩:∃ q,j2=q+1:=⟨j2 - 1,by omega⟩
        rw [scanDown] at k3
        and_intros <;> try omega
        refine (H.less _ _).Q ?_
        have e4:IntKind.i64.wrap (((q+1:Nat):Int) - 1)=((q:Nat):Int):=wI (by omega) (by omega)
        simp only [cK,zi,h5,e4,↓vcPre,↓zm,↓reduceIte,vcPost,vcStd,Store.set_set,zk,zf,zg,za,Nat.le_refl,Nat.zero_add,Array.size_setIfInBounds,Nat.reduceEqDiff,reduceCtorEq,Nat.reduceAdd,Nat.reduceLeDiff,Int.reduceLT,Int.reduceLE,↓u_setN]
        refine ⟨fun b2 => ?_,fun b2 => ?_⟩
        ·have hl2:ltU d1[q+1]! d1[a]! = false:=decide_eq_false b2
         rw [if_pos (by simp [hl2,b1])] at k3
         refine NextQ.to q ?_ ?_ ?_ ?_
         ·rfl
         ·exact Store.sub_refl _
         ·omega
         ·exact ⟨Or.inl (by omega),by omega,k3⟩
        ·have hl2:ltU d1[q+1]! d1[a]! = true:=decide_eq_true (by omega)
         rw [if_neg (by simp [hl2])] at k3
         obtain ⟨j2,hj2⟩:∃ x,x=q+1:=⟨_,rfl⟩
         rw [←hj2] at k1 k2 k3 b1 ⊢
         rw [←g3,←k3] at h6
         refine ⟨fun c1=>(by exfalso;omega),fun c1 => ?_⟩
         rw [if_neg (by omega),dif_pos (by omega)] at h6
         and_intros <;> try omega
         have e5:IntKind.i64.wrap ((i2:Int)+1)=((i2+1:Nat):Int):=wI (by omega) (by omega)
         have e6:IntKind.i64.wrap (((j2:Nat):Int) - 1)=((j2 - 1:Nat):Int):=wI (by omega) (by omega)
         try rw [e5]
         try rw [e6]
         rw [show ((q:Nat):Int)=((j2 - 1:Nat):Int) from by omega]
         refine NextQ.to (i2+1,j2 - 1,swp d1 i2 j2) ?_ ?_ ?_ ?_
         ·rfl
         ·exact Store.sub_refl _
         ·simp only;omega
         ·exact ⟨by simp only;omega,by simp only;omega,by simp only;omega,by simp only;omega,by simp only [za];omega,h6⟩
       ·rw [ym _ _ _ _ b1] at k3
        rw [←g3,←k3] at h6
        refine ⟨fun c1 => ?_,fun c1=>(by exfalso;omega)⟩
        rw [if_pos (by omega)] at h6
        and_intros <;> try omega
        exact EndQ.to _ _ rfl (Store.sub_refl _) ⟨by rw [←h6],by rw [←h6];rfl⟩
     ·rw [if_neg (by simp;omega)] at g3
      refine LoopQ.inv (S:=Nat) (fun s=>[(0,.os id 1 0 d.size),(1,.int .i64 a),(10,.int .i64 i2),(11,.int .i64 s)]) (fun s=>σ.set id (arrA 1 (cK κ) d1))
       (fun s=>(i2≤s+1∨s=j)∧s≤j∧scanDown (fun x => !ltU x d1[a]!) d1 i2 s=scanDown (fun x => !ltU x d1[a]!) d1 i2 j) (fun s=>s) j rfl (Store.sub_refl _) ⟨Or.inr rfl,Nat.le_refl _,rfl⟩ ?_
      rintro j2 ⟨k1,k2,k3⟩
      simp only [cK,zi,h5,↓vcPre,↓zm,↓reduceIte,vcPost,vcStd,Store.set_set,zk,zf,zg,za,Nat.le_refl,Nat.zero_add,Array.size_setIfInBounds,Nat.reduceEqDiff,reduceCtorEq,Nat.reduceAdd,Nat.reduceLeDiff,Int.reduceLT,Int.reduceLE,↓u_setN]
      refine ⟨fun b1=>(by exfalso;omega),fun b1 => ?_⟩
      rw [ym _ _ _ _ b1] at k3
      rw [←g3,←k3] at h6
      refine ⟨fun c1 => ?_,fun c1=>(by exfalso;omega)⟩
      rw [if_pos (by omega)] at h6
      and_intros <;> try omega
      exact EndQ.to _ _ rfl (Store.sub_refl _) ⟨by rw [←h6],by rw [←h6];rfl⟩
   ·rw [ym _ _ _ _ b1] at k3
    have hp:partition ltU d a b pivot=if i2>j2 then (j2,true,swp d1 j2 a) else ((partLoop ltU a (i2+1) (j2 - 1) (swp d1 i2 j2)).1,false,swp (partLoop ltU a (i2+1) (j2 - 1) (swp d1 i2 j2)).2 (partLoop ltU a (i2+1) (j2 - 1) (swp d1 i2 j2)).1 a):=by
     subst hd1 hi hj
     rw [partition]
     simp only [←g3,←k3]
    refine ⟨fun c1 => ?_,fun c1=>(by exfalso;omega)⟩
    rw [if_pos (by omega)] at hp
    and_intros <;> try omega
    exact EndQ.to _ _ rfl (Store.sub_refl _) ⟨by rw [hp],by rw [hp];rfl⟩
 ·rw [if_neg (by simp;omega)] at g3
  refine LoopQ.inv (S:=Nat) (fun s=>[(0,.os id 1 0 d.size),(1,.int .i64 a),(10,.int .i64 i2),(11,.int .i64 s)]) (fun s=>σ.set id (arrA 1 (cK κ) d1))
   (fun s=>(i2≤s+1∨s=j)∧s≤j∧scanDown (fun x => !ltU x d1[a]!) d1 i2 s=scanDown (fun x => !ltU x d1[a]!) d1 i2 j) (fun s=>s) j rfl (Store.sub_refl _) ⟨Or.inr rfl,Nat.le_refl _,rfl⟩ ?_
  rintro j2 ⟨k1,k2,k3⟩
  simp only [cK,zi,h5,↓vcPre,↓zm,↓reduceIte,vcPost,vcStd,Store.set_set,zk,zf,zg,za,Nat.le_refl,Nat.zero_add,Array.size_setIfInBounds,Nat.reduceEqDiff,reduceCtorEq,Nat.reduceAdd,Nat.reduceLeDiff,Int.reduceLT,Int.reduceLE,↓u_setN]
  refine ⟨fun b1=>(by exfalso;omega),fun b1 => ?_⟩
  rw [ym _ _ _ _ b1] at k3
  have hp:partition ltU d a b pivot=if i2>j2 then (j2,true,swp d1 j2 a) else ((partLoop ltU a (i2+1) (j2 - 1) (swp d1 i2 j2)).1,false,swp (partLoop ltU a (i2+1) (j2 - 1) (swp d1 i2 j2)).2 (partLoop ltU a (i2+1) (j2 - 1) (swp d1 i2 j2)).1 a):=by
   subst hd1 hi hj
   rw [partition]
   simp only [←g3,←k3]
  refine ⟨fun c1 => ?_,fun c1=>(by exfalso;omega)⟩
  rw [if_pos (by omega)] at hp
  and_intros <;> try omega
  exact EndQ.to _ _ rfl (Store.sub_refl _) ⟨by rw [hp],by rw [hp];rfl⟩
end Go.Am
namespace Go.Am
open Go.Sort
set_option linter.unusedSectionVars false
variable {P:Program} {N:SN} {κ:IntKind}
def stQ (σ:Store) (id q:Nat) (c:Int→List AV) (d:Array Int) (n:Nat):Store:=(σ.set id (arrA 1 c d)).set q (.box [.int .i64 n])
theorem z3k (H:SH P N κ) (d:Array Int) (a b n:Nat) (ha:a<d.size) (hb:b<d.size) (hs:d.size<2305843009213693952) (hn:n<1000) (σ:Store) (id q:Nat) (hq:¬ id=q) :
 ACalls P N.ord2 [.os id 1 0 d.size,.int .i64 a,.int .i64 b,.ptr q 0] (stQ σ id q (cK κ) d n) (fun r s=>r = .tup [.int .i64 (order2 ltU d a b n).1,.int .i64 (order2 ltU d a b n).2.1]∧s=stQ σ id q (cK κ) d (order2 ltU d a b n).2.2):=by
 refine y6 H.ord2 (Nat.le_refl _) ?_
 simp only [SB.ord2,stQ]
 simp only [cK,zi,hq,↓vcPre,↓zm,↓reduceIte,vcPost,vcStd,Store.set_set,zk,zf,zg,za,Nat.le_refl,Nat.zero_add,Array.size_setIfInBounds,Nat.reduceEqDiff,reduceCtorEq,Nat.reduceAdd,Nat.reduceLeDiff,Int.reduceLT,Int.reduceLE,↓u_setN]
 and_intros <;> try omega
 refine (H.less _ _).Q ?_
 simp only [cK,zi,hq,↓vcPre,↓zm,↓reduceIte,vcPost,vcStd,Store.set_set,zk,zf,zg,za,Nat.le_refl,Nat.zero_add,Array.size_setIfInBounds,Nat.reduceEqDiff,reduceCtorEq,Nat.reduceAdd,Nat.reduceLeDiff,Int.reduceLT,Int.reduceLE,↓u_setN]
 have e1:IntKind.i64.wrap ((n:Int)+1)=((n+1:Nat):Int):=wI (by omega) (by omega)
 rw [e1]
 refine ⟨fun h => ?_,fun h => ?_⟩
 ·have hl:ltU d[b]! d[a]! = true:=decide_eq_true h
  refine EndQ.to _ _ rfl (Store.sub_refl _) ?_
  simp [order2,hl,stQ]
 ·have hl:ltU d[b]! d[a]! = false:=decide_eq_false h
  refine EndQ.to _ _ rfl (Store.sub_refl _) ?_
  simp [order2,hl,stQ]
theorem ww (lt:Int→Int→Bool) (d:Array Int) (a b n m:Nat) (ha:a<m) (hb:b<m):(order2 lt d a b n).1<m∧(order2 lt d a b n).2.1<m∧(order2 lt d a b n).2.2≤n+1:=by
 unfold order2;split <;> simp <;> omega
theorem z5u (H:SH P N κ) (d:Array Int) (a b e n:Nat) (ha:a<d.size) (hb:b<d.size) (he:e<d.size) (hs:d.size<2305843009213693952) (hn:n<900) (σ:Store) (id q:Nat) (hq:¬ id=q) :
 ACalls P N.med [.os id 1 0 d.size,.int .i64 a,.int .i64 b,.int .i64 e,.ptr q 0] (stQ σ id q (cK κ) d n) (fun r s=>r = .int .i64 (median ltU d a b e n).1∧s=stQ σ id q (cK κ) d (median ltU d a b e n).2):=by
 refine y6 H.med (Nat.le_refl _) ?_
 simp only [SB.med]
 simp only [↓vcPre,↓z8,↓reduceIte,vcPost,vcStd,Nat.reduceEqDiff,reduceCtorEq,Nat.reduceAdd,Nat.reduceLeDiff,Int.reduceLT,Int.reduceLE,↓u_setN]
 refine (z3k H d a b n ha hb hs (by omega) σ id q hq).Q ?_
 rintro r s ⟨rfl,rfl⟩
 obtain ⟨p1,p2,p3⟩:=ww ltU d a b n d.size ha hb
 simp only [↓vcPre,↓z8,↓reduceIte,vcPost,vcStd,Nat.reduceEqDiff,reduceCtorEq,Nat.reduceAdd,Nat.reduceLeDiff,Int.reduceLT,Int.reduceLE,↓u_setN]
 refine (z3k H d _ e _ p2 he hs (by omega) σ id q hq).Q ?_
 rintro r s ⟨rfl,rfl⟩
 obtain ⟨q1,q2,q3⟩:=ww ltU d (order2 ltU d a b n).2.1 e (order2 ltU d a b n).2.2 d.size p2 he
 simp only [↓vcPre,↓z8,↓reduceIte,vcPost,vcStd,Nat.reduceEqDiff,reduceCtorEq,Nat.reduceAdd,Nat.reduceLeDiff,Int.reduceLT,Int.reduceLE,↓u_setN]
 refine (z3k H d _ _ _ p1 q1 hs (by omega) σ id q hq).Q ?_
 rintro r s ⟨rfl,rfl⟩
 simp only [↓vcPre,↓z8,↓reduceIte,vcPost,vcStd,Nat.reduceEqDiff,reduceCtorEq,Nat.reduceAdd,Nat.reduceLeDiff,Int.reduceLT,Int.reduceLE,↓u_setN]
 exact EndQ.to _ _ rfl (Store.sub_refl _) ⟨rfl,rfl⟩
theorem z78 (lt:Int→Int→Bool) (d:Array Int) (a b e n m:Nat) (ha:a<m) (hb:b<m) (he:e<m):(median lt d a b e n).1<m∧(median lt d a b e n).2≤n+3:=by
 obtain ⟨p1,p2,p3⟩:=ww lt d a b n m ha hb
 obtain ⟨q1,q2,q3⟩:=ww lt d (order2 lt d a b n).2.1 e (order2 lt d a b n).2.2 m p2 he
 obtain ⟨r1,r2,r3⟩:=ww lt d (order2 lt d a b n).1 (order2 lt d (order2 lt d a b n).2.1 e (order2 lt d a b n).2.2).1 (order2 lt d (order2 lt d a b n).2.1 e (order2 lt d a b n).2.2).2.2 m p1 q1
 simp only [median]
 exact ⟨r2,by omega⟩
theorem z0w (H:SH P N κ) (d:Array Int) (a n:Nat) (h1:1≤a) (ha:a+1<d.size) (hs:d.size<2305843009213693952) (hn:n<900) (σ:Store) (id q:Nat) (hq:¬ id=q) :
 ACalls P N.medadj [.os id 1 0 d.size,.int .i64 a,.ptr q 0] (stQ σ id q (cK κ) d n) (fun r s=>r = .int .i64 (medianAdjacent ltU d a n).1∧s=stQ σ id q (cK κ) d (medianAdjacent ltU d a n).2):=by
 refine y6 H.medadj (Nat.le_refl _) ?_
 simp only [SB.medadj]
 simp only [↓vcPre,↓z8,↓reduceIte,vcPost,vcStd,Nat.reduceEqDiff,reduceCtorEq,Nat.reduceAdd,Nat.reduceLeDiff,Int.reduceLT,Int.reduceLE,↓u_setN]
 have e1:IntKind.i64.wrap ((a:Int)+1)=((a+1:Nat):Int):=wI (by omega) (by omega)
 have e2:IntKind.i64.wrap ((a:Int) - 1)=((a - 1:Nat):Int):=wI (by omega) (by omega)
 rw [e1,e2]
 refine (z5u H d (a - 1) a (a+1) n (by omega) (by omega) (by omega) hs hn σ id q hq).Q ?_
 rintro r s ⟨rfl,rfl⟩
 simp only [↓vcPre,↓z8,↓reduceIte,vcPost,vcStd,Nat.reduceEqDiff,reduceCtorEq,Nat.reduceAdd,Nat.reduceLeDiff,Int.reduceLT,Int.reduceLE,↓u_setN]
 exact EndQ.to _ _ rfl (Store.sub_refl _) ⟨rfl,rfl⟩
theorem z5v (H:SH P N κ) (d:Array Int) (a b:Nat) (hab:a<b) (hb:b≤d.size) (hs:d.size<2305843009213693952) (σ:Store) (id:Nat) :
 ACalls P N.piv [.os id 1 0 d.size,.int .i64 a,.int .i64 b] (σ.set id (arrA 1 (cK κ) d)) (fun r s=>r = .tup [.int .i64 (choosePivot ltU d a b).1,.int .i64 (match (choosePivot ltU d a b).2 with | .unknown=>0 | .increasing=>1 | .decreasing=>2)]∧s=σ.set id (arrA 1 (cK κ) d)):=by
 refine y6 H.piv (Nat.le_refl _) ?_
 simp only [SB.piv]
 simp only [cK,zi,↓vcPre,↓zm,↓reduceIte,vcPost,vcStd,Store.set_set,zk,zf,zg,za,Nat.le_refl,Nat.zero_add,Array.size_setIfInBounds,Nat.reduceEqDiff,reduceCtorEq,Nat.reduceAdd,Nat.reduceLeDiff,Int.reduceLT,Int.reduceLE,↓u_setN]
 refine AllocQ.i1 fun q hq1 hq2 hq => ?_
 have fr:(σ.set id (arrA 1 (cK κ) d)) q=none:=by rw [z5g hq1];exact hq
 simp only [cK,zi,hq1,hq2,↓vcPre,↓zm,↓reduceIte,vcPost,vcStd,Store.set_set,zk,zf,zg,za,Nat.le_refl,Nat.zero_add,Array.size_setIfInBounds,Nat.reduceEqDiff,reduceCtorEq,Nat.reduceAdd,Nat.reduceLeDiff,Int.reduceLT,Int.reduceLE,↓u_setN]
 have eL:IntKind.i64.wrap ((b:Int) - a)=((b - a:Nat):Int):=wI (by omega) (by omega)
 have eQ:IntKind.i64.wrap (((b - a:Nat):Int).tdiv 4)=(((b - a) / 4:Nat):Int):=wI (by rw [Int.tdiv_eq_ediv_of_nonneg (by omega)];omega) (by omega)
 have m1:IntKind.i64.wrap ((((b - a) / 4:Nat):Int)*1)=(((b - a) / 4*1:Nat):Int):=wI (by omega) (by omega)
 have m2:IntKind.i64.wrap ((((b - a) / 4:Nat):Int)*2)=(((b - a) / 4*2:Nat):Int):=wI (by omega) (by omega)
 have m3:IntKind.i64.wrap ((((b - a) / 4:Nat):Int)*3)=(((b - a) / 4*3:Nat):Int):=wI (by omega) (by omega)
 have n1:IntKind.i64.wrap ((a:Int)+(((b - a) / 4*1:Nat):Int))=((a+(b - a) / 4*1:Nat):Int):=wI (by omega) (by omega)
 have n2:IntKind.i64.wrap ((a:Int)+(((b - a) / 4*2:Nat):Int))=((a+(b - a) / 4*2:Nat):Int):=wI (by omega) (by omega)
 have n3:IntKind.i64.wrap ((a:Int)+(((b - a) / 4*3:Nat):Int))=((a+(b - a) / 4*3:Nat):Int):=wI (by omega) (by omega)
 simp only [eL,eQ,m1,m2,m3,n1,n2,n3]
 rw [show (Obj.box [AV.int IntKind.i64 0])=Obj.box [AV.int IntKind.i64 ((0:Nat):Int)] from rfl]
 rw [show (σ.set id (arrA 1 (cK κ) d)).set q (Obj.box [AV.int IntKind.i64 ((0:Nat):Int)])=stQ σ id q (cK κ) d 0 from rfl]
 have hsub:∀ n,Store.sub (σ.set id (arrA 1 (cK κ) d)) (stQ σ id q (cK κ) d n):=fun n=>Store.sub_set _ _ _ fr
 obtain ⟨l,hl⟩:∃ x,x=b - a:=⟨_,rfl⟩
 obtain ⟨i,hi⟩:∃ x,x=a+l / 4*1:=⟨_,rfl⟩
 obtain ⟨j,hj⟩:∃ x,x=a+l / 4*2:=⟨_,rfl⟩
 obtain ⟨k,hk'⟩:∃ x,x=a+l / 4*3:=⟨_,rfl⟩
 have hcp:choosePivot ltU d a b=(fun r:Nat×Nat=>(r.1,if r.2=0 then Hint.increasing else if r.2=12 then .decreasing else .unknown))
  (if l≥8 then (if l≥50 then median ltU d (medianAdjacent ltU d i 0).1 (medianAdjacent ltU d j (medianAdjacent ltU d i 0).2).1 (medianAdjacent ltU d k (medianAdjacent ltU d j (medianAdjacent ltU d i 0).2).2).1 (medianAdjacent ltU d k (medianAdjacent ltU d j (medianAdjacent ltU d i 0).2).2).2
    else median ltU d i j k 0) else (j,0)):=by subst hi hj hk' hl;rfl
 have F2:IntKind.i64.wrap ((a:Int)+IntKind.i64.wrap (IntKind.i64.wrap ((IntKind.i64.wrap ((b:Int) - a)).tdiv 4)*2))=(j:Int):=by rw [eL,eQ,m2,n2,hj,hl]
 have F3:IntKind.i64.wrap ((a:Int)+IntKind.i64.wrap (IntKind.i64.wrap ((IntKind.i64.wrap ((b:Int) - a)).tdiv 4)*3))=(k:Int):=by rw [eL,eQ,m3,n3,hk',hl]
 rw [hcp]
 simp only [←hl,←hi,←hj,←hk']
 clear hcp eL eQ m1 m2 m3 n1 n2 n3
 refine ⟨by omega,by omega,by omega,fun a1=>⟨fun a2 => ?_,fun a2 => ?_⟩,fun a1 => ?_⟩
 ·have v0:=fun (x n:Nat) (h1:1≤x) (h2:x+1<d.size)=>(by
   unfold medianAdjacent;exact z78 ltU d (x - 1) x (x+1) n d.size (by omega) (by omega) (by omega):(medianAdjacent ltU d x n).1<d.size∧(medianAdjacent ltU d x n).2≤n+3)
  rw [if_pos (by omega),if_pos (by omega)]
  refine (z0w H d i 0 (by omega) (by omega) hs (by omega) σ id q hq2).Q ?_
  rintro r s ⟨rfl,rfl⟩
  obtain ⟨p1,p2⟩:=v0 i 0 (by omega) (by omega)
  simp only [F2,F3,↓vcPre,↓z8,↓reduceIte,vcPost,vcStd,Nat.reduceEqDiff,reduceCtorEq,Nat.reduceAdd,Nat.reduceLeDiff,Int.reduceLT,Int.reduceLE,↓u_setN]
  refine (z0w H d j (medianAdjacent ltU d i 0).2 (by omega) (by omega) hs (by omega) σ id q hq2).Q ?_
  rintro r s ⟨rfl,rfl⟩
  obtain ⟨p3,p4⟩:=v0 j (medianAdjacent ltU d i 0).2 (by omega) (by omega)
  simp only [F2,F3,↓vcPre,↓z8,↓reduceIte,vcPost,vcStd,Nat.reduceEqDiff,reduceCtorEq,Nat.reduceAdd,Nat.reduceLeDiff,Int.reduceLT,Int.reduceLE,↓u_setN]
  refine (z0w H d k (medianAdjacent ltU d j (medianAdjacent ltU d i 0).2).2 (by omega) (by omega) hs (by omega) σ id q hq2).Q ?_
  rintro r s ⟨rfl,rfl⟩
  obtain ⟨p5,p6⟩:=v0 k (medianAdjacent ltU d j (medianAdjacent ltU d i 0).2).2 (by omega) (by omega)
  simp only [F2,F3,↓vcPre,↓z8,↓reduceIte,vcPost,vcStd,Nat.reduceEqDiff,reduceCtorEq,Nat.reduceAdd,Nat.reduceLeDiff,Int.reduceLT,Int.reduceLE,↓u_setN]
  refine (z5u H d _ _ _ (medianAdjacent ltU d k (medianAdjacent ltU d j (medianAdjacent ltU d i 0).2).2).2 p1 p3 p5 hs (by omega) σ id q hq2).Q ?_
  rintro r s ⟨rfl,rfl⟩
  generalize median ltU d _ _ _ _=R
  unfold stQ at hsub ⊢
  simp only [hq2,↓vcPre,↓z8,↓reduceIte,vcPost,vcStd,Nat.reduceEqDiff,reduceCtorEq,Nat.reduceAdd,Nat.reduceLeDiff,Int.reduceLT,Int.reduceLE,↓u_setN]
  refine ⟨fun z => ?_,fun z=>⟨fun z2 => ?_,fun z2 => ?_⟩⟩
  ·exact EndQ.to _ _ rfl (hsub _) ⟨by dsimp only;rw [if_pos (by omega)],rfl⟩
  ·exact EndQ.to _ _ rfl (hsub _) ⟨by dsimp only;rw [if_neg (by omega),if_pos (by omega)],rfl⟩
  ·exact EndQ.to _ _ rfl (hsub _) ⟨by dsimp only;rw [if_neg (by omega),if_neg (by omega)],rfl⟩
 ·rw [if_pos (by omega),if_neg (by omega)]
  refine (z5u H d i j k 0 (by omega) (by omega) (by omega) hs (by omega) σ id q hq2).Q ?_
  rintro r s ⟨rfl,rfl⟩
  generalize median ltU d _ _ _ _=R
  unfold stQ at hsub ⊢
  simp only [hq2,↓vcPre,↓z8,↓reduceIte,vcPost,vcStd,Nat.reduceEqDiff,reduceCtorEq,Nat.reduceAdd,Nat.reduceLeDiff,Int.reduceLT,Int.reduceLE,↓u_setN]
  refine ⟨fun z => ?_,fun z=>⟨fun z2 => ?_,fun z2 => ?_⟩⟩
  ·exact EndQ.to _ _ rfl (hsub _) ⟨by dsimp only;rw [if_pos (by omega)],rfl⟩
  ·exact EndQ.to _ _ rfl (hsub _) ⟨by dsimp only;rw [if_neg (by omega),if_pos (by omega)],rfl⟩
  ·exact EndQ.to _ _ rfl (hsub _) ⟨by dsimp only;rw [if_neg (by omega),if_neg (by omega)],rfl⟩
 ·rw [if_neg (by omega)]
  exact EndQ.to _ _ rfl (hsub 0) ⟨rfl,rfl⟩
end Go.Am
namespace Go.Am
open Go.Sort
set_option linter.unusedSectionVars false
variable {P:Program} {N:SN} {κ:IntKind}
theorem ur (lt:Int→Int→Bool):∀ j (d:Array Int),(shiftDown lt j d).size=d.size
 | 0,d=>rfl
 | j+1,d=>by rw [shiftDown];split <;> simp [ur lt j,za]
theorem z42 (lt:Int→Int→Bool) (b j:Nat) (d:Array Int):(shiftUp lt b j d).size=d.size:=by
 fun_induction shiftUp lt b j d <;> simp_all [za]
set_option maxRecDepth 20000 in
theorem z2j (H:SH P N κ) (d:Array Int) (a b:Nat) (hab:a<b) (hb:b≤d.size) (hs:d.size<2305843009213693952) (σ:Store) (id:Nat) :
 ACalls P N.partins [.os id 1 0 d.size,.int .i64 a,.int .i64 b] (σ.set id (arrA 1 (cK κ) d)) (fun r s=>r = .bool (partialInsertionSort ltU d a b).2∧s=σ.set id (arrA 1 (cK κ) (partialInsertionSort ltU d a b).1)):=by
 refine y6 H.partins (Nat.le_refl _) ?_
 simp only [SB.partins]
 simp only [cK,zi,↓vcPre,↓zm,↓reduceIte,vcPost,vcStd,Store.set_set,zk,zf,zg,za,Nat.le_refl,Nat.zero_add,Array.size_setIfInBounds,Nat.reduceEqDiff,reduceCtorEq,Nat.reduceAdd,Nat.reduceLeDiff,Int.reduceLT,Int.reduceLE,↓u_setN]
 have e1:IntKind.i64.wrap ((a:Int)+1)=((a+1:Nat):Int):=wI (by omega) (by omega)
 rw [e1]
 refine LoopQ.inv (S:=Nat×Nat×Array Int) (fun s=>[(0,.os id 1 0 d.size),(1,.int .i64 a),(2,.int .i64 b),(7,.int .i64 s.2.1),(8,.int .i64 (5 - (s.1:Int)))]) (fun s=>σ.set id (arrA 1 (cK κ) s.2.2))
  (fun s=>s.1≤5∧a<s.2.1∧s.2.1≤b∧s.2.2.size=d.size∧partialIns ltU a b s.1 s.2.1 s.2.2=partialInsertionSort ltU d a b) (fun s=>s.1) (5,a+1,d) rfl (Store.sub_refl _)
  ⟨by simp,by simp only;omega,by simp only;omega,rfl,rfl⟩ ?_
 rintro ⟨k,i,d1⟩ ⟨h1,h2,h3,h4,h5⟩
 simp only at h1 h2 h3 h4 h5
 simp only [cK,zi,h4,↓vcPre,↓zm,↓reduceIte,vcPost,vcStd,Store.set_set,zk,zf,zg,za,Nat.le_refl,Nat.zero_add,Array.size_setIfInBounds,Nat.reduceEqDiff,reduceCtorEq,Nat.reduceAdd,Nat.reduceLeDiff,Int.reduceLT,Int.reduceLE,↓u_setN]
 refine ⟨fun a1 => ?_,fun a1 => ?_⟩
 ·obtain ⟨m,rfl⟩:∃ m,k=m+1:=⟨k - 1,by omega⟩
  rw [partialIns] at h5
  simp only at h5
  refine LoopQ.inv (S:=Nat) (fun s=>[(0,.os id 1 0 d.size),(1,.int .i64 a),(2,.int .i64 b),(7,.int .i64 s),(8,.int .i64 (5 - ((m+1:Nat):Int)))]) (fun s=>σ.set id (arrA 1 (cK κ) d1))
   (fun s=>i≤s∧s≤b∧scanSorted ltU d1 b s=scanSorted ltU d1 b i) (fun s=>d.size+1 - s) i rfl (Store.sub_refl _) ⟨Nat.le_refl _,h3,rfl⟩ ?_
  rintro i2 ⟨g1,g2,g3⟩
  have e2:IntKind.i64.wrap ((i2:Int) - 1)=((i2 - 1:Nat):Int):=wI (by omega) (by omega)
  have e3:IntKind.i64.wrap ((i2:Int)+1)=((i2+1:Nat):Int):=wI (by omega) (by omega)
  have e4:IntKind.i64.wrap ((b:Int) - a)=((b - a:Nat):Int):=wI (by omega) (by omega)
  have e5:IntKind.i64.wrap ((i2:Int) - a)=((i2 - a:Nat):Int):=wI (by omega) (by omega)
  have e6:IntKind.i64.wrap ((b:Int) - i2)=((b - i2:Nat):Int):=wI (by omega) (by omega)
  simp only [cK,zi,h4,e2,e3,e4,e5,e6,↓vcPre,↓zm,↓reduceIte,vcPost,vcStd,Store.set_set,zk,zf,zg,za,Nat.le_refl,Nat.zero_add,Array.size_setIfInBounds,Nat.reduceEqDiff,reduceCtorEq,Nat.reduceAdd,Nat.reduceLeDiff,Int.reduceLT,Int.reduceLE,↓u_setN]
  rw [scanSorted] at g3
  refine ⟨fun a2 => ?_,fun a2 => ?_⟩
  ·and_intros <;> try omega
   refine (H.less _ _).Q ?_
   simp only [cK,zi,h4,e2,e3,e4,e5,e6,↓vcPre,↓zm,↓reduceIte,vcPost,vcStd,Store.set_set,zk,zf,zg,za,Nat.le_refl,Nat.zero_add,Array.size_setIfInBounds,Nat.reduceEqDiff,reduceCtorEq,Nat.reduceAdd,Nat.reduceLeDiff,Int.reduceLT,Int.reduceLE,↓u_setN]
   refine ⟨fun a3 => ?_,fun a3 => ?_⟩
   ·have hl:ltU d1[i2]! d1[i2 - 1]! = false:=decide_eq_false a3
    rw [if_pos (by simp [hl,a2])] at g3
    refine NextQ.to (i2+1) ?_ ?_ ?_ ?_
    ·rfl
    ·exact Store.sub_refl _
    ·omega
    ·exact ⟨by omega,by omega,g3⟩
   ·have hl:ltU d1[i2]! d1[i2 - 1]! = true:=decide_eq_true (by omega)
    rw [if_neg (by simp [hl])] at g3
    rw [←g3,if_neg (by omega)] at h5
    refine ⟨fun b1=>(by exfalso;omega),fun b1=>⟨fun b2 => ?_,fun b2 => ?_⟩⟩
    ·rw [if_pos (by omega)] at h5
     exact EndQ.to _ _ rfl (Store.sub_refl _) ⟨by rw [←h5],by rw [←h5]⟩
    ·rw [if_neg (by omega)] at h5
     and_intros <;> try omega
     ·intro b3
      rw [if_pos (show i2 - a≥2 by omega)] at h5
      refine LoopQ.inv (S:=Nat×Array Int) (fun s=>[(0,.os id 1 0 d.size),(1,.int .i64 a),(2,.int .i64 b),(7,.int .i64 i2),(8,.int .i64 (5 - ((m+1:Nat):Int))),(9,.int .i64 s.1)]) (fun s=>σ.set id (arrA 1 (cK κ) s.2))
       (fun s=>s.1≤i2∧s.2.size=d.size∧shiftDown ltU s.1 s.2=shiftDown ltU (i2 - 1) (swp d1 i2 (i2 - 1))) (fun s=>s.1) (i2 - 1,swp d1 i2 (i2 - 1)) rfl (Store.sub_refl _)
       ⟨by simp only;omega,by simp only [za];omega,rfl⟩ ?_
      rintro ⟨j,d3⟩ ⟨k1,k2,k3⟩
      simp only at k1 k2 k3
      have f1:IntKind.i64.wrap ((b:Int) - i2)=((b - i2:Nat):Int):=e6
      rw [←k3] at h5
      simp only [cK,zi,k2,e2,e3,e4,e5,e6,↓vcPre,↓zm,↓reduceIte,vcPost,vcStd,Store.set_set,zk,zf,zg,za,Nat.le_refl,Nat.zero_add,Array.size_setIfInBounds,Nat.reduceEqDiff,reduceCtorEq,Nat.reduceAdd,Nat.reduceLeDiff,Int.reduceLT,Int.reduceLE,↓u_setN]
      refine ⟨fun b4 => ?_,fun b4 => ?_⟩
      ·obtain ⟨j,rfl⟩:∃ q,j=q+1:=⟨j - 1,by omega⟩
       have f2:IntKind.i64.wrap (((j+1:Nat):Int) - 1)=(j:Int):=wI (by omega) (by omega)
       simp only [f2,Int.toNat_natCast]
       and_intros <;> try omega
       refine (H.less _ _).Q ?_
       simp only [cK,zi,k2,e2,e3,e4,e5,e6,f2,↓vcPre,↓zm,↓reduceIte,vcPost,vcStd,Store.set_set,zk,zf,zg,za,Nat.le_refl,Nat.zero_add,Array.size_setIfInBounds,Nat.reduceEqDiff,reduceCtorEq,Nat.reduceAdd,Nat.reduceLeDiff,Int.reduceLT,Int.reduceLE,↓u_setN]
       refine ⟨fun b5 => ?_,fun b5 => ?_⟩
       ·have hl2:ltU d3[j+1]! d3[j]! = false:=decide_eq_false b5
        rw [show shiftDown ltU (j+1) d3=d3 by rw [shiftDown,if_pos (by simp [hl2])]] at h5
        have f3:IntKind.i64.wrap (5 - ((m+1:Nat):Int)+1)=5 - (m:Int):=by rw [zd (by unfold I64;omega)];omega
        refine ⟨fun c1 => ?_,fun c1 => ?_⟩
        ·rw [if_pos (show b - i2≥2 by omega)] at h5
         refine LoopQ.inv (S:=Nat×Array Int) (fun s=>[(0,.os id 1 0 d.size),(1,.int .i64 a),(2,.int .i64 b),(7,.int .i64 i2),(8,.int .i64 (5 - ((m+1:Nat):Int))),(10,.int .i64 s.1)]) (fun s=>σ.set id (arrA 1 (cK κ) s.2))
          (fun s=>i2<s.1∧s.1≤b∧s.2.size=d.size∧shiftUp ltU b s.1 s.2=shiftUp ltU b (i2+1) d3) (fun s=>b+1 - s.1) (i2+1,d3) rfl (Store.sub_refl _)
          ⟨by simp only;omega,by simp only;omega,k2,rfl⟩ ?_
         rintro ⟨p,d4⟩ ⟨l1,l2,l3,l4⟩
         simp only at l1 l2 l3 l4
         rw [←l4] at h5
         simp only [cK,zi,l3,e2,e3,e4,e5,e6,↓vcPre,↓zm,↓reduceIte,vcPost,vcStd,Store.set_set,zk,zf,zg,za,Nat.le_refl,Nat.zero_add,Array.size_setIfInBounds,Nat.reduceEqDiff,reduceCtorEq,Nat.reduceAdd,Nat.reduceLeDiff,Int.reduceLT,Int.reduceLE,↓u_setN]
         have f4:IntKind.i64.wrap ((p:Int) - 1)=((p - 1:Nat):Int):=wI (by omega) (by omega)
         have f5:IntKind.i64.wrap ((p:Int)+1)=((p+1:Nat):Int):=wI (by omega) (by omega)
         simp only [f3,f4,f5,Int.toNat_natCast]
         refine ⟨fun c2 => ?_,fun c2 => ?_⟩
         ·and_intros <;> try omega
          refine (H.less _ _).Q ?_
          simp only [cK,zi,l3,e2,e3,e4,e5,e6,f3,f4,f5,↓vcPre,↓zm,↓reduceIte,vcPost,vcStd,Store.set_set,zk,zf,zg,za,Nat.le_refl,Nat.zero_add,Array.size_setIfInBounds,Nat.reduceEqDiff,reduceCtorEq,Nat.reduceAdd,Nat.reduceLeDiff,Int.reduceLT,Int.reduceLE,↓u_setN]
          refine ⟨fun c3 => ?_,fun c3 => ?_⟩
          ·have hl3:ltU d4[p]! d4[p - 1]! = false:=decide_eq_false c3
           rw [shiftUp,if_pos (by omega),if_pos (by simp [hl3])] at h5
           refine NextQ.to (m,i2,d4) ?_ ?_ ?_ ?_
           ·rfl
           ·exact Store.sub_refl _
           ·simp
           ·exact ⟨by simp only;omega,by simp only;omega,by simp only;omega,l3,h5⟩
          ·have hl3:ltU d4[p]! d4[p - 1]! = true:=decide_eq_true (by omega)
           rw [shiftUp,if_pos (by omega),if_neg (by simp [hl3])] at l4
           and_intros <;> try omega
           refine NextQ.to (p+1,swp d4 p (p - 1)) ?_ ?_ ?_ ?_
           ·rfl
           ·exact Store.sub_refl _
           ·simp only;omega
           ·exact ⟨by simp only;omega,by simp only;omega,by simp only [za];omega,l4⟩
         ·rw [shiftUp,if_neg (by omega)] at h5
          refine NextQ.to (m,i2,d4) ?_ ?_ ?_ ?_
          ·rfl
          ·exact Store.sub_refl _
          ·simp
          ·exact ⟨by simp only;omega,by simp only;omega,by simp only;omega,l3,h5⟩
        ·rw [if_neg (show ¬ b - i2≥2 by omega)] at h5
         rw [f3]
         refine NextQ.to (m,i2,d3) ?_ ?_ ?_ ?_
         ·rfl
         ·exact Store.sub_refl _
         ·simp
         ·exact ⟨by simp only;omega,by simp only;omega,by simp only;omega,k2,h5⟩
       ·have hl2:ltU d3[j+1]! d3[j]! = true:=decide_eq_true (by omega)
        rw [shiftDown,if_neg (by simp [hl2])] at k3
        and_intros <;> try omega
        refine NextQ.to (j,swp d3 (j+1) j) ?_ ?_ ?_ ?_
        ·rfl
        ·exact Store.sub_refl _
        ·simp
        ·exact ⟨by simp only;omega,by simp only [za];omega,k3⟩
      ·have:j=0:=by omega
       subst this
       rw [shiftDown] at h5
       have f3:IntKind.i64.wrap (5 - ((m+1:Nat):Int)+1)=5 - (m:Int):=by rw [zd (by unfold I64;omega)];omega
       refine ⟨fun c1 => ?_,fun c1 => ?_⟩
       ·rw [if_pos (show b - i2≥2 by omega)] at h5
        refine LoopQ.inv (S:=Nat×Array Int) (fun s=>[(0,.os id 1 0 d.size),(1,.int .i64 a),(2,.int .i64 b),(7,.int .i64 i2),(8,.int .i64 (5 - ((m+1:Nat):Int))),(10,.int .i64 s.1)]) (fun s=>σ.set id (arrA 1 (cK κ) s.2))
         (fun s=>i2<s.1∧s.1≤b∧s.2.size=d.size∧shiftUp ltU b s.1 s.2=shiftUp ltU b (i2+1) d3) (fun s=>b+1 - s.1) (i2+1,d3) rfl (Store.sub_refl _)
         ⟨by simp only;omega,by simp only;omega,k2,rfl⟩ ?_
        rintro ⟨p,d4⟩ ⟨l1,l2,l3,l4⟩
        simp only at l1 l2 l3 l4
        rw [←l4] at h5
        simp only [cK,zi,l3,e2,e3,e4,e5,e6,↓vcPre,↓zm,↓reduceIte,vcPost,vcStd,Store.set_set,zk,zf,zg,za,Nat.le_refl,Nat.zero_add,Array.size_setIfInBounds,Nat.reduceEqDiff,reduceCtorEq,Nat.reduceAdd,Nat.reduceLeDiff,Int.reduceLT,Int.reduceLE,↓u_setN]
        have f4:IntKind.i64.wrap ((p:Int) - 1)=((p - 1:Nat):Int):=wI (by omega) (by omega)
        have f5:IntKind.i64.wrap ((p:Int)+1)=((p+1:Nat):Int):=wI (by omega) (by omega)
        simp only [f3,f4,f5,Int.toNat_natCast]
        refine ⟨fun c2 => ?_,fun c2 => ?_⟩
        ·and_intros <;> try omega
         refine (H.less _ _).Q ?_
         simp only [cK,zi,l3,e2,e3,e4,e5,e6,f3,f4,f5,↓vcPre,↓zm,↓reduceIte,vcPost,vcStd,Store.set_set,zk,zf,zg,za,Nat.le_refl,Nat.zero_add,Array.size_setIfInBounds,Nat.reduceEqDiff,reduceCtorEq,Nat.reduceAdd,Nat.reduceLeDiff,Int.reduceLT,Int.reduceLE,↓u_setN]
         refine ⟨fun c3 => ?_,fun c3 => ?_⟩
         ·have hl3:ltU d4[p]! d4[p - 1]! = false:=decide_eq_false c3
          rw [shiftUp,if_pos (by omega),if_pos (by simp [hl3])] at h5
          refine NextQ.to (m,i2,d4) ?_ ?_ ?_ ?_
          ·rfl
          ·exact Store.sub_refl _
          ·simp
          ·exact ⟨by simp only;omega,by simp only;omega,by simp only;omega,l3,h5⟩
         ·have hl3:ltU d4[p]! d4[p - 1]! = true:=decide_eq_true (by omega)
          rw [shiftUp,if_pos (by omega),if_neg (by simp [hl3])] at l4
          and_intros <;> try omega
          refine NextQ.to (p+1,swp d4 p (p - 1)) ?_ ?_ ?_ ?_
          ·rfl
          ·exact Store.sub_refl _
          ·simp only;omega
          ·exact ⟨by simp only;omega,by simp only;omega,by simp only [za];omega,l4⟩
        ·rw [shiftUp,if_neg (by omega)] at h5
         refine NextQ.to (m,i2,d4) ?_ ?_ ?_ ?_
         ·rfl
         ·exact Store.sub_refl _
         ·simp
         ·exact ⟨by simp only;omega,by simp only;omega,by simp only;omega,l3,h5⟩
       ·rw [if_neg (show ¬ b - i2≥2 by omega)] at h5
        rw [f3]
        refine NextQ.to (m,i2,d3) ?_ ?_ ?_ ?_
        ·rfl
        ·exact Store.sub_refl _
        ·simp
        ·exact ⟨by simp only;omega,by simp only;omega,by simp only;omega,k2,h5⟩
     ·intro b3
      rw [if_neg (show ¬ i2 - a≥2 by omega)] at h5
      obtain ⟨d3,hd3⟩:∃ x,x=swp d1 i2 (i2 - 1):=⟨_,rfl⟩
      have k2:d3.size=d.size:=by rw [hd3,za];exact h4
      rw [show (d1.setIfInBounds i2 d1[i2 - 1]!).setIfInBounds (i2 - 1) d1[i2]! = swp d1 i2 (i2 - 1) from rfl,←hd3]
      rw [←hd3] at h5
      have f3:IntKind.i64.wrap (5 - ((m+1:Nat):Int)+1)=5 - (m:Int):=by rw [zd (by unfold I64;omega)];omega
      refine ⟨fun c1 => ?_,fun c1 => ?_⟩
      ·rw [if_pos (show b - i2≥2 by omega)] at h5
       refine LoopQ.inv (S:=Nat×Array Int) (fun s=>[(0,.os id 1 0 d.size),(1,.int .i64 a),(2,.int .i64 b),(7,.int .i64 i2),(8,.int .i64 (5 - ((m+1:Nat):Int))),(10,.int .i64 s.1)]) (fun s=>σ.set id (arrA 1 (cK κ) s.2))
        (fun s=>i2<s.1∧s.1≤b∧s.2.size=d.size∧shiftUp ltU b s.1 s.2=shiftUp ltU b (i2+1) d3) (fun s=>b+1 - s.1) (i2+1,d3) rfl (Store.sub_refl _)
        ⟨by simp only;omega,by simp only;omega,k2,rfl⟩ ?_
       rintro ⟨p,d4⟩ ⟨l1,l2,l3,l4⟩
       simp only at l1 l2 l3 l4
       rw [←l4] at h5
       simp only [cK,zi,l3,e2,e3,e4,e5,e6,↓vcPre,↓zm,↓reduceIte,vcPost,vcStd,Store.set_set,zk,zf,zg,za,Nat.le_refl,Nat.zero_add,Array.size_setIfInBounds,Nat.reduceEqDiff,reduceCtorEq,Nat.reduceAdd,Nat.reduceLeDiff,Int.reduceLT,Int.reduceLE,↓u_setN]
       have f4:IntKind.i64.wrap ((p:Int) - 1)=((p - 1:Nat):Int):=wI (by omega) (by omega)
       have f5:IntKind.i64.wrap ((p:Int)+1)=((p+1:Nat):Int):=wI (by omega) (by omega)
       simp only [f3,f4,f5,Int.toNat_natCast]
       refine ⟨fun c2 => ?_,fun c2 => ?_⟩
       ·and_intros <;> try omega
        refine (H.less _ _).Q ?_
        simp only [cK,zi,l3,e2,e3,e4,e5,e6,f3,f4,f5,↓vcPre,↓zm,↓reduceIte,vcPost,vcStd,Store.set_set,zk,zf,zg,za,Nat.le_refl,Nat.zero_add,Array.size_setIfInBounds,Nat.reduceEqDiff,reduceCtorEq,Nat.reduceAdd,Nat.reduceLeDiff,Int.reduceLT,Int.reduceLE,↓u_setN]
        refine ⟨fun c3 => ?_,fun c3 => ?_⟩
        ·have hl3:ltU d4[p]! d4[p - 1]! = false:=decide_eq_false c3
         rw [shiftUp,if_pos (by omega),if_pos (by simp [hl3])] at h5
         refine NextQ.to (m,i2,d4) ?_ ?_ ?_ ?_
         ·rfl
         ·exact Store.sub_refl _
         ·simp
         ·exact ⟨by simp only;omega,by simp only;omega,by simp only;omega,l3,h5⟩
        ·have hl3:ltU d4[p]! d4[p - 1]! = true:=decide_eq_true (by omega)
         rw [shiftUp,if_pos (by omega),if_neg (by simp [hl3])] at l4
         and_intros <;> try omega
         refine NextQ.to (p+1,swp d4 p (p - 1)) ?_ ?_ ?_ ?_
         ·rfl
         ·exact Store.sub_refl _
         ·simp only;omega
         ·exact ⟨by simp only;omega,by simp only;omega,by simp only [za];omega,l4⟩
       ·rw [shiftUp,if_neg (by omega)] at h5
        refine NextQ.to (m,i2,d4) ?_ ?_ ?_ ?_
        ·rfl
        ·exact Store.sub_refl _
        ·simp
        ·exact ⟨by simp only;omega,by simp only;omega,by simp only;omega,l3,h5⟩
      ·rw [if_neg (show ¬ b - i2≥2 by omega)] at h5
       rw [f3]
       refine NextQ.to (m,i2,d3) ?_ ?_ ?_ ?_
       ·rfl
       ·exact Store.sub_refl _
       ·simp
       ·exact ⟨by simp only;omega,by simp only;omega,by simp only;omega,k2,h5⟩
  ·rw [if_neg (by simp;omega)] at g3
   rw [←g3,if_pos (by omega)] at h5
   refine ⟨fun b1 => ?_,fun b1=>(by exfalso;omega)⟩
   exact EndQ.to _ _ rfl (Store.sub_refl _) ⟨by rw [←h5],by rw [←h5]⟩
 ·have:k=0:=by omega
  subst this
  rw [partialIns] at h5
  exact EndQ.to _ _ rfl (Store.sub_refl _) ⟨by rw [←h5],by rw [←h5]⟩
end Go.Am
namespace Go.Am
open Go.Sort
set_option linter.unusedSectionVars false
variable {P:Program} {N:SN} {κ:IntKind}
theorem z7n (p:Int→Bool) (d:Array Int) (j:Nat):∀ i,scanUp p d j i≤max i (j+1):=by
 intro i
 fun_induction scanUp p d j i
 ·rename_i h ih
  simp at h
  omega
 ·omega
theorem z0q (p:Int→Bool) (d:Array Int) (i:Nat):∀ j,scanDown p d i j≤j
 | 0=>by rw [scanDown];exact Nat.le_refl _
 | j+1=>by
   rw [scanDown];split
   ·have:=z0q p d i j;omega
   ·exact Nat.le_refl _
theorem z1h (lt:Int→Int→Bool) (a i j:Nat) (d:Array Int):(partEqLoop lt a i j d).2.size=d.size:=by
 fun_induction partEqLoop lt a i j d <;> simp_all [za]
theorem u5 (lt:Int→Int→Bool) (a b:Nat):∀ (m i j:Nat) (d:Array Int),j+1 - i<m→a<i→i≤b→j<b→a<(partEqLoop lt a i j d).1∧(partEqLoop lt a i j d).1≤b
 | 0,i,j,d,h,_,_,_=>by omega
 | m+1,i,j,d,h,q1,q2,q3=>by
   have w1:=z7m (fun x => !lt d[a]! x) d j i
   have w2:=z7n (fun x => !lt d[a]! x) d j i
   rw [partEqLoop]
   generalize scanUp (fun x => !lt d[a]! x) d j i=i2 at *
   have w3:=z0q (fun x=>lt d[a]! x) d i2 j
   generalize scanDown (fun x=>lt d[a]! x) d i2 j=j2 at *
   split
   ·simp only;omega
   ·split
    ·exact u5 lt a b m (i2+1) (j2 - 1) _ (by omega) (by omega) (by omega) (by omega)
    ·simp only;omega
theorem q8 (lt:Int→Int→Bool) (d:Array Int) (a b p:Nat) (h:a<b):a<(partitionEqual lt d a b p).1∧(partitionEqual lt d a b p).1≤b:=by
 unfold partitionEqual
 exact u5 lt a b _ (a+1) (b - 1) _ (Nat.lt_succ_self _) (by omega) (by omega) (by omega)
theorem yl (lt:Int→Int→Bool) (d:Array Int) (a b p:Nat):(partitionEqual lt d a b p).2.size=d.size:=by
 unfold partitionEqual;rw [z1h,za]
theorem yq (lt:Int→Int→Bool) (a b:Nat):∀ k i (d:Array Int),(partialIns lt a b k i d).1.size=d.size
 | 0,i,d=>rfl
 | k+1,i,d=>by
   rw [partialIns]
   simp only
   split
   ·rfl
   ·split
    ·rfl
    ·rw [yq lt a b k]
     split <;> split <;> simp [z42,ur,za]
theorem yz (i j:Nat) (d:Array Int):(reverseLoop i j d).size=d.size:=by
 fun_induction reverseLoop i j d <;> simp_all [za]
end Go.Am
namespace Go.Am
open Go.Sort
set_option linter.unusedSectionVars false
variable {P:Program} {N:SN} {κ:IntKind}
section
variable (lt:Int→Int→Bool)
def pdqC (d3:Array Int) (pivot a b limit:Nat) (wb wp:Bool):Array Int :=
 if a>0 && !lt d3[a - 1]! d3[pivot]! then
  (if a<(partitionEqual lt d3 a b pivot).1∧(partitionEqual lt d3 a b pivot).1≤b then pdq lt (partitionEqual lt d3 a b pivot).2 (partitionEqual lt d3 a b pivot).1 b limit wb wp else (partitionEqual lt d3 a b pivot).2)
 else
  (if a≤(partition lt d3 a b pivot).1∧(partition lt d3 a b pivot).1<b then
    (if (partition lt d3 a b pivot).1 - a<b - (partition lt d3 a b pivot).1 then
      pdq lt (pdq lt (partition lt d3 a b pivot).2.2 a (partition lt d3 a b pivot).1 limit true true) ((partition lt d3 a b pivot).1+1) b limit (decide ((partition lt d3 a b pivot).1 - a≥(b - a) / 8)) (partition lt d3 a b pivot).2.1
    else
     pdq lt (pdq lt (partition lt d3 a b pivot).2.2 ((partition lt d3 a b pivot).1+1) b limit true true) a (partition lt d3 a b pivot).1 limit (decide (b - (partition lt d3 a b pivot).1≥(b - a) / 8)) (partition lt d3 a b pivot).2.1)
  else (partition lt d3 a b pivot).2.2)
def pdqB (d2:Array Int) (pivot:Nat) (hint:Hint) (a b limit:Nat) (wb wp:Bool):Array Int :=
 if wb && wp && hint = .increasing then
  (if (partialInsertionSort lt d2 a b).2 then (partialInsertionSort lt d2 a b).1 else pdqC lt (partialInsertionSort lt d2 a b).1 pivot a b limit wb wp)
 else pdqC lt d2 pivot a b limit wb wp
def pdqA (d1:Array Int) (a b limit:Nat) (wb wp:Bool):Array Int :=
 if (choosePivot lt d1 a b).2 = .decreasing then pdqB lt (reverseRange d1 a b) ((b - 1) - ((choosePivot lt d1 a b).1 - a)) .increasing a b limit wb wp
 else pdqB lt d1 (choosePivot lt d1 a b).1 (choosePivot lt d1 a b).2 a b limit wb wp
theorem z7e (d:Array Int) (a b limit:Nat) (wb wp:Bool):pdq lt d a b limit wb wp =
 if b - a≤12 then insertionSort lt d a b else if limit=0 then heapSort lt d a b else
 if wb then pdqA lt d a b limit wb wp else pdqA lt (breakPatterns d a b) a b (limit - 1) wb wp:=by
 rw [pdq]
 split
 ·rfl
 ·split
  ·rfl
  ·cases wb
   ·simp only [Bool.not_false,if_true,Bool.false_eq_true,if_false,pdqA,Bool.false_and]
    split
    ·simp only [pdqB,pdqC,Bool.false_and,Bool.false_eq_true,if_false,dite_eq_ite]
    ·simp only [pdqB,pdqC,Bool.false_and,Bool.false_eq_true,if_false,dite_eq_ite]
   ·simp only [Bool.not_true,Bool.false_eq_true,if_false,if_true,pdqA,Bool.true_and]
    split
    ·simp only [pdqB,pdqC,Bool.true_and,dite_eq_ite]
     split <;> simp
    ·simp only [pdqB,pdqC,Bool.true_and,dite_eq_ite]
     split <;> simp
theorem yj (hO:SWO lt):∀ (m:Nat) (d:Array Int) (a b limit:Nat) (wb wp:Bool),b - a<m→a≤b→b≤d.size→(pdq lt d a b limit wb wp).size=d.size
 | 0,d,a,b,limit,wb,wp,h,_,_=>by omega
 | m+1,d,a,b,limit,wb,wp,h,hab,hb=>by
   have hC:∀ (d3:Array Int) (p l2:Nat),d3.size=d.size→a≤p→p<b→(pdqC lt d3 p a b l2 wb wp).size=d.size:=by
    intro d3 p l2 h3 hp1 hp2
    rw [pdqC]
    split
    ·split
     ·rename_i hr
      rw [yj hO m _ _ _ _ _ _ (by omega) hr.2 (by rw [yl];omega),yl,h3]
     ·rw [yl,h3]
    ·obtain ⟨r1,r2,r3,_⟩:=partition_holds lt hO d3 a b p hp1 hp2 (by omega)
     have r4:=r3.1
     generalize partition lt d3 a b p=R at *
     rw [if_pos ⟨r1,r2⟩]
     split
     ·rw [yj hO m _ _ _ _ _ _ (by omega) (by omega) (by rw [yj hO m _ _ _ _ _ _ (by omega) (by omega) (by omega)];omega),yj hO m _ _ _ _ _ _ (by omega) (by omega) (by omega)];omega
     ·rw [yj hO m _ _ _ _ _ _ (by omega) (by omega) (by rw [yj hO m _ _ _ _ _ _ (by omega) (by omega) (by omega)];omega),yj hO m _ _ _ _ _ _ (by omega) (by omega) (by omega)];omega
   have hB:∀ (d2:Array Int) (p l2:Nat) (hh:Hint),d2.size=d.size→a≤p→p<b→(pdqB lt d2 p hh a b l2 wb wp).size=d.size:=by
    intro d2 p l2 hh h2 hp1 hp2
    rw [pdqB]
    split
    ·split
     ·rw [partialInsertionSort,yq,h2]
     ·exact hC _ _ _ (by rw [partialInsertionSort,yq,h2]) hp1 hp2
    ·exact hC _ _ _ h2 hp1 hp2
   have hA:∀ (d1:Array Int) (l2:Nat),d1.size=d.size→a<b→(pdqA lt d1 a b l2 wb wp).size=d.size:=by
    intro d1 l2 h1 hlt
    obtain ⟨p1,p2⟩:=choosePivot_holds lt d1 a b hlt
    rw [pdqA]
    split
    ·exact hB _ _ _ _ (by rw [reverseRange,yz,h1]) (by omega) (by omega)
    ·exact hB _ _ _ _ h1 p1 p2
   rw [z7e]
   split
   ·exact (insertionSort_holds hO d a b hab hb).1.1
   ·split
    ·exact (heapSort_holds hO d a b hab hb).1.1
    ·split
     ·exact hA _ _ rfl (by omega)
     ·exact hA _ _ (breakPatterns_holds d a b hab hb).1 (by omega)
end
end Go.Am
namespace Go.Am
open Go.Sort
set_option linter.unusedSectionVars false
variable {P:Program} {N:SN} {κ:IntKind}
set_option maxHeartbeats 1000000 in
set_option maxRecDepth 20000 in
theorem wc (H:SH P N κ) (hO:SWO ltU) (σ:Store) (id:Nat) (n:Nat) (hs:n<2305843009213693952) (w:Nat)
 (ih:∀ (d:Array Int) (a b limit:Nat),d.size=n→b - a<w→a≤b→b≤n→limit<1000 →
   ACalls P N.pdq [.os id 1 0 n,.int .i64 a,.int .i64 b,.int .i64 limit] (σ.set id (arrA 1 (cK κ) d)) (fun r s=>r = .tup []∧s=σ.set id (arrA 1 (cK κ) (pdq ltU d a b limit true true))))
 (d3 R:Array Int) (a1 b1 p lm:Nat) (wb wp v:Bool) (q:Nat) (hq:q=68∨q=72) (k3:d3.size=n) (g3:b1≤n) (pw1:a1≤p) (pw2:p<b1) (g4:lm<1000) (hw:b1 - a1<w+1)
 (Nn Nr:Env→Store→Prop) (Nx:Nat→Env→Store→Prop)
 (hN:(∀ (a2 b2 l2:Nat) (w1 w2:Bool) (D:Array Int) (e:Env),e=[(0,.os id 1 0 n),(1,.int .i64 (a2:Int)),(2,.int .i64 (b2:Int)),(3,.int .i64 (l2:Int)),(8,.bool w1),(9,.bool w2)]→D.size=n→a2≤b2→b2≤n→l2<1000→b2 - a2<b1 - a1→pdq ltU D a2 b2 l2 w1 w2=R→Nn e (σ.set id (arrA 1 (cK κ) D))))
 (hX:(∀ (a2 b2 l2:Nat) (w1 w2:Bool) (D:Array Int) (e:Env),e=[(0,.os id 1 0 n),(1,.int .i64 (a2:Int)),(2,.int .i64 (b2:Int)),(3,.int .i64 (l2:Int)),(8,.bool w1),(9,.bool w2)]→D.size=n→a2≤b2→b2≤n→l2<1000→b2 - a2<b1 - a1→pdq ltU D a2 b2 l2 w1 w2=R→Nx 1 e (σ.set id (arrA 1 (cK κ) D))))
 (g6:pdqC ltU d3 p a1 b1 lm wb wp=R) :
 bwp P (SB.pdqT N) [(0,.os id 1 0 n),(1,.int .i64 a1),(2,.int .i64 b1),(3,.int .i64 lm),(8,.bool wb),(9,.bool wp),(10,.int .i64 ((b1 - a1:Nat):Int)),(11,.int .i64 p),(q,.bool v)] (σ.set id (arrA 1 (cK κ) d3)) Nn Nr Nx:=by
 have eL:IntKind.i64.wrap ((b1:Int) - a1)=((b1 - a1:Nat):Int):=wI (by omega) (by omega)
 have hN:=hN
 rcases hq with rfl | rfl
 all_goals
  simp only [SB.pdqT]
  simp only [cK,zi,k3,↓vcPre,↓zm,↓reduceIte,vcPost,vcStd,Store.set_set,zk,zf,zg,za,Nat.le_refl,Nat.zero_add,Array.size_setIfInBounds,Nat.reduceEqDiff,reduceCtorEq,Nat.reduceAdd,Nat.reduceLeDiff,Int.reduceLT,Int.reduceLE,↓u_setN]
  rw [pdqC] at g6
  refine ⟨fun c1 => ?_,fun c1 => ?_⟩
  ·have f1:IntKind.i64.wrap ((a1:Int) - 1)=((a1 - 1:Nat):Int):=wI (by omega) (by omega)
   simp only [f1,Int.toNat_natCast]
   and_intros <;> try omega
   refine (H.less _ _).Q ?_
   simp only [cK,zi,k3,eL,f1,↓vcPre,↓zm,↓reduceIte,vcPost,vcStd,Store.set_set,zk,zf,zg,za,Nat.le_refl,Nat.zero_add,Array.size_setIfInBounds,Nat.reduceEqDiff,reduceCtorEq,Nat.reduceAdd,Nat.reduceLeDiff,Int.reduceLT,Int.reduceLE,↓u_setN]
   refine ⟨fun c2 => ?_,fun c2 => ?_⟩
   ·have hlt:ltU d3[a1 - 1]! d3[p]! = false:=decide_eq_false c2
    rw [if_pos (by simp [hlt];omega)] at g6
    have h76:=z94 H d3 a1 b1 p pw1 pw2 (by omega) (by omega) σ id
    rw [k3] at h76
    refine h76.Q ?_
    rintro r s ⟨rfl,rfl⟩
    obtain ⟨r1,r2⟩:=q8 ltU d3 a1 b1 p (by omega)
    have r3:=yl ltU d3 a1 b1 p
    clear h76
    generalize partitionEqual ltU d3 a1 b1 p=R at *
    obtain ⟨mid,d4⟩:=R
    simp only at r1 r2 r3 g6
    rw [if_pos ⟨r1,r2⟩] at g6
    simp only [cK,zi,k3,eL,f1,↓vcPre,↓zm,↓reduceIte,vcPost,vcStd,Store.set_set,zk,zf,zg,za,Nat.le_refl,Nat.zero_add,Array.size_setIfInBounds,Nat.reduceEqDiff,reduceCtorEq,Nat.reduceAdd,Nat.reduceLeDiff,Int.reduceLT,Int.reduceLE,↓u_setN]
    exact hX mid b1 lm wb wp d4 _ rfl (by omega) (by omega) g3 g4 (by omega) g6
   ·have hlt:ltU d3[a1 - 1]! d3[p]! = true:=decide_eq_true (by omega)
    rw [if_neg (by simp [hlt])] at g6
    have hP:=z70 H d3 a1 b1 p pw1 pw2 (by omega) (by omega) σ id
    rw [k3] at hP
    refine hP.Q ?_
    rintro r s ⟨rfl,rfl⟩
    obtain ⟨r1,r2,r3,_⟩:=partition_holds ltU hO d3 a1 b1 p pw1 pw2 (by omega)
    clear hP
    generalize partition ltU d3 a1 b1 p=R at *
    obtain ⟨mid,ap,d4⟩:=R
    simp only at r1 r2 r3 g6
    have k4:d4.size=n:=by rw [r3.1];exact k3
    rw [if_pos ⟨r1,r2⟩] at g6
    have f2:IntKind.i64.wrap ((mid:Int) - a1)=((mid - a1:Nat):Int):=wI (by omega) (by omega)
    have f3:IntKind.i64.wrap ((b1:Int) - mid)=((b1 - mid:Nat):Int):=wI (by omega) (by omega)
    have f4:IntKind.i64.wrap ((mid:Int)+1)=((mid+1:Nat):Int):=wI (by omega) (by omega)
    have f5:IntKind.i64.wrap (((b1 - a1:Nat):Int).tdiv 8)=(((b1 - a1) / 8:Nat):Int):=wI (by rw [Int.tdiv_eq_ediv_of_nonneg (by omega)];omega) (by omega)
    simp only [cK,zi,k4,eL,f2,f3,f4,f5,↓vcPre,↓zm,↓reduceIte,vcPost,vcStd,Store.set_set,zk,zf,zg,za,Nat.le_refl,Nat.zero_add,Array.size_setIfInBounds,Nat.reduceEqDiff,reduceCtorEq,Nat.reduceAdd,Nat.reduceLeDiff,Int.reduceLT,Int.reduceLE,↓u_setN]
    refine ⟨by omega,fun z => ?_,fun z => ?_⟩
    ·rw [if_pos (by omega)] at g6
     have hI:=ih d4 a1 mid lm k4 (by omega) (by omega) (by omega) (by omega)
     have k5:(pdq ltU d4 a1 mid lm true true).size=n:=by rw [yj _ hO _ _ _ _ _ _ _ (Nat.lt_succ_self _) (by omega) (by omega)];exact k4
     generalize pdq ltU d4 a1 mid lm true true=D at hI k5 g6
     refine hI.Q ?_
     intro r s hrs
     have hr1:=hrs.1
     have hs1:=hrs.2
     clear hrs
     subst hr1
     subst hs1
     simp only [cK,zi,k5,eL,f2,f3,f4,f5,↓vcPre,↓zm,↓reduceIte,vcPost,vcStd,Store.set_set,zk,zf,zg,za,Nat.le_refl,Nat.zero_add,Array.size_setIfInBounds,Nat.reduceEqDiff,reduceCtorEq,Nat.reduceAdd,Nat.reduceLeDiff,Int.reduceLT,Int.reduceLE,↓u_setN]
     refine hN (mid+1) b1 lm (decide ((b1 - a1) / 8≤mid - a1)) ap D _ ?_ k5 (by omega) g3 g4 (by omega) g6
     simp only [Int.ofNat_le,ge_iff_le]
    ·rw [if_neg (by omega)] at g6
     have hI:=ih d4 (mid+1) b1 lm k4 (by omega) (by omega) (by omega) (by omega)
     have k5:(pdq ltU d4 (mid+1) b1 lm true true).size=n:=by rw [yj _ hO _ _ _ _ _ _ _ (Nat.lt_succ_self _) (by omega) (by omega)];exact k4
     generalize pdq ltU d4 (mid+1) b1 lm true true=D at hI k5 g6
     refine hI.Q ?_
     intro r s hrs
     have hr1:=hrs.1
     have hs1:=hrs.2
     clear hrs
     subst hr1
     subst hs1
     simp only [cK,zi,k5,eL,f2,f3,f4,f5,↓vcPre,↓zm,↓reduceIte,vcPost,vcStd,Store.set_set,zk,zf,zg,za,Nat.le_refl,Nat.zero_add,Array.size_setIfInBounds,Nat.reduceEqDiff,reduceCtorEq,Nat.reduceAdd,Nat.reduceLeDiff,Int.reduceLT,Int.reduceLE,↓u_setN]
     refine hN a1 mid lm (decide ((b1 - a1) / 8≤b1 - mid)) ap D _ ?_ k5 (by omega) (by omega) g4 (by omega) g6
     simp only [Int.ofNat_le,ge_iff_le]
  ·rw [if_neg (by simp;omega)] at g6
   have hP:=z70 H d3 a1 b1 p pw1 pw2 (by omega) (by omega) σ id
   rw [k3] at hP
   refine hP.Q ?_
   rintro r s ⟨rfl,rfl⟩
   obtain ⟨r1,r2,r3,_⟩:=partition_holds ltU hO d3 a1 b1 p pw1 pw2 (by omega)
   clear hP
   generalize partition ltU d3 a1 b1 p=R at *
   obtain ⟨mid,ap,d4⟩:=R
   simp only at r1 r2 r3 g6
   have k4:d4.size=n:=by rw [r3.1];exact k3
   rw [if_pos ⟨r1,r2⟩] at g6
   have f2:IntKind.i64.wrap ((mid:Int) - a1)=((mid - a1:Nat):Int):=wI (by omega) (by omega)
   have f3:IntKind.i64.wrap ((b1:Int) - mid)=((b1 - mid:Nat):Int):=wI (by omega) (by omega)
   have f4:IntKind.i64.wrap ((mid:Int)+1)=((mid+1:Nat):Int):=wI (by omega) (by omega)
   have f5:IntKind.i64.wrap (((b1 - a1:Nat):Int).tdiv 8)=(((b1 - a1) / 8:Nat):Int):=wI (by rw [Int.tdiv_eq_ediv_of_nonneg (by omega)];omega) (by omega)
   simp only [cK,zi,k4,eL,f2,f3,f4,f5,↓vcPre,↓zm,↓reduceIte,vcPost,vcStd,Store.set_set,zk,zf,zg,za,Nat.le_refl,Nat.zero_add,Array.size_setIfInBounds,Nat.reduceEqDiff,reduceCtorEq,Nat.reduceAdd,Nat.reduceLeDiff,Int.reduceLT,Int.reduceLE,↓u_setN]
   refine ⟨by omega,fun z => ?_,fun z => ?_⟩
   ·rw [if_pos (by omega)] at g6
    have hI:=ih d4 a1 mid lm k4 (by omega) (by omega) (by omega) (by omega)
    have k5:(pdq ltU d4 a1 mid lm true true).size=n:=by rw [yj _ hO _ _ _ _ _ _ _ (Nat.lt_succ_self _) (by omega) (by omega)];exact k4
    generalize pdq ltU d4 a1 mid lm true true=D at hI k5 g6
    refine hI.Q ?_
    intro r s hrs
    have hr1:=hrs.1
    have hs1:=hrs.2
    clear hrs
    subst hr1
    subst hs1
    simp only [cK,zi,k5,eL,f2,f3,f4,f5,↓vcPre,↓zm,↓reduceIte,vcPost,vcStd,Store.set_set,zk,zf,zg,za,Nat.le_refl,Nat.zero_add,Array.size_setIfInBounds,Nat.reduceEqDiff,reduceCtorEq,Nat.reduceAdd,Nat.reduceLeDiff,Int.reduceLT,Int.reduceLE,↓u_setN]
    refine hN (mid+1) b1 lm (decide ((b1 - a1) / 8≤mid - a1)) ap D _ ?_ k5 (by omega) g3 g4 (by omega) g6
    simp only [Int.ofNat_le,ge_iff_le]
   ·rw [if_neg (by omega)] at g6
    have hI:=ih d4 (mid+1) b1 lm k4 (by omega) (by omega) (by omega) (by omega)
    have k5:(pdq ltU d4 (mid+1) b1 lm true true).size=n:=by rw [yj _ hO _ _ _ _ _ _ _ (Nat.lt_succ_self _) (by omega) (by omega)];exact k4
    generalize pdq ltU d4 (mid+1) b1 lm true true=D at hI k5 g6
    refine hI.Q ?_
    intro r s hrs
    have hr1:=hrs.1
    have hs1:=hrs.2
    clear hrs
    subst hr1
    subst hs1
    simp only [cK,zi,k5,eL,f2,f3,f4,f5,↓vcPre,↓zm,↓reduceIte,vcPost,vcStd,Store.set_set,zk,zf,zg,za,Nat.le_refl,Nat.zero_add,Array.size_setIfInBounds,Nat.reduceEqDiff,reduceCtorEq,Nat.reduceAdd,Nat.reduceLeDiff,Int.reduceLT,Int.reduceLE,↓u_setN]
    refine hN a1 mid lm (decide ((b1 - a1) / 8≤b1 - mid)) ap D _ ?_ k5 (by omega) (by omega) g4 (by omega) g6
    simp only [Int.ofNat_le,ge_iff_le]
end Go.Am
