/- A part of the proof: a logic for calls over plain values, and the functions that the law reaches, each walked once. -/
import Derived.Test.YtholebikgpnmlaaPF13
import Derived.Shelf.Spec.SlicesInsertGrow
import Derived.Test.YtholebikgpnmlaaProg
set_option linter.unusedVariables false
set_option linter.unusedSimpArgs false
set_option linter.unusedSectionVars false
namespace Go.Am
open Go.Proofs Go.Sort
def prefixF (a n:Int):Int×Int:=ofF (bitInt .or .u32 167772160 (shlInt .u32 (Int.tmod a 64) 18)) (8+n % 7)
theorem c24 (a n:Int) (h:I64 n):Pur Try.prog 24 [.int .u32 a,.int .i64 n] (.agg [.int .u32 (prefixF a n).1,.int .i64 (prefixF a n).2]):=by
 refine zp Tst.F24 (by simp [Tst.F24,Fn.mkX]) fun σ => ?_
 simp only [Tst.F24,Fn.mkX,Tst.b24]
 simp only [↓vcPre,↓z0,↓reduceIte,vcPost,vcStd,Nat.reduceEqDiff,reduceCtorEq,Nat.reduceAdd,Nat.reduceLeDiff,Int.reduceLT,Int.reduceLE,↓u_setN]
 refine AllocQ.i0 fun i hi => ?_
 simp only [↓vcPre,↓z0,↓reduceIte,vcPost,vcStd,Nat.reduceEqDiff,reduceCtorEq,Nat.reduceAdd,Nat.reduceLeDiff,Int.reduceLT,Int.reduceLE,↓u_setN]
 have hw:=c48 n 0 6 h (by omega) (by omega) (by omega)
 have e:(0:Int)+n % (6 - 0+1)=n % 7:=by omega
 rw [e] at hw
 have h7:=Int.emod_nonneg n (b:=7) (by omega)
 have h8:=Int.emod_lt_of_pos n (b:=7) (by omega)
 have w1:IntKind.i64.wrap (8+n % 7)=8+n % 7:=zj (by unfold I64;omega)
 refine ⟨by decide,hw.Q ?_⟩
 simp only [w1,↓vcPre,↓z0,↓reduceIte,vcPost,vcStd,Nat.reduceEqDiff,reduceCtorEq,Nat.reduceAdd,Nat.reduceLeDiff,Int.reduceLT,Int.reduceLE,↓u_setN]
 refine (c49 _ _ (by unfold I64;omega)).Q ?_
 simp only [↓vcPre,↓z0,↓reduceIte,vcPost,vcStd,Nat.reduceEqDiff,reduceCtorEq,Nat.reduceAdd,Nat.reduceLeDiff,Int.reduceLT,Int.reduceLE,↓u_setN]
 exact ⟨⟨rfl,rfl⟩,zb (Store.sub_set σ i _ hi) hi⟩
theorem Own.split {esz:Nat} {τ s:Store} {L:List (List AV)} {v:AV} (hsub:Store.sub τ s) (ho:Own esz τ L v s):∃ τ0,Store.sub τ τ0∧Store.sub τ0 s∧(∀ j o,s j=some o→(∀ M,o ≠ .arr esz M)→τ0 j=some o)∧Own esz τ0 L v s:=by
 rcases ho with ⟨hk,hv⟩ | ⟨g,hv,hg,hs⟩
 ·exact ⟨s,hsub,Store.sub_refl _,fun _ _ h _=>h,.inl ⟨hk,hv⟩⟩
 ·exact ⟨s.del g,sub_del hsub hg,qz _ _,fun j o hj hn=>by rw [Store.del_ne _ (fun e=>by rw [e,hs] at hj;cases hj;exact hn _ rfl)];exact hj,.inr ⟨g,hv,by simp,hs⟩⟩
theorem Own.appP {esz bytes:Nat} {τ s:Store} {L ys:List (List AV)} {v wv:AV} {K:AV→Store→Prop} (hsub:Store.sub τ s) (ho:Own esz τ L v s) (hw:slc s esz wv=some ys) (hsz:(L.length+ys.length)*bytes≤140737488355328)
 (h:∀ v' s',Store.sub τ s'→Own esz τ (L++ys) v' s'→(∀ j o,s j=some o→(∀ M,o ≠ .arr esz M)→s' j=some o)→K v' s'):appwp esz bytes v wv s K:=by
 obtain ⟨τ0,q1,q2,q3,q4⟩:=Own.split hsub ho
 refine Own.appM (τ:=τ0) q2 q4 hw hsz fun v' s' hs' ho' => ?_
 exact h v' s' (Store.sub_trans q1 hs') (ho'.weak q1) fun j o hj hn=>hs' _ _ (q3 j o hj hn)
theorem x9:[AV.int .i64 0,.nils,.int .u32 0,.bool false,.int .u32 0,.bool false,.int .u32 0,.bool false,.nils]=zCells:=rfl
def segN (s:Seg):Int:=IntKind.u32.wrap (64500+IntKind.u32.wrap (Int.tmod (s.ls.length:Int) 4))
def tcm (x:Int):Int:=IntKind.u32.wrap ((if Int.tmod x 5=4 then IntKind.u32.wrap (4294967040+Int.tmod x 3) else Int.tmod x 5)+1)
def tameC (l:List Int):List Int:=l.foldl (fun c x=>putL c (tcm x)) []
def tameA (a:At) (as1:Int):At:=⟨a.org % 3,[⟨2,as1::(a.path.take 2).map segN⟩],nextF a.nxt,a.hm,if a.hm then Int.tmod a.med 3 else 0,a.hp,if a.hp then IntKind.u32.wrap (100+Int.tmod a.prf 3) else 0,false,tameC (a.cms.take 2)⟩
section
variable {a:At} {as1:Int} {σ:Store} {n rr:Env→Store→Prop} {xx:Nat→Env→Store→Prop}
def tCells (a:At) (m p:Int) (pv cv:AV):List AV:=[.int .i64 (a.org % 3),pv,.int .u32 (nextF a.nxt),.bool a.hm,.int .u32 m,.bool a.hp,.int .u32 p,.bool false,cv]
theorem z7d {T:Store} {p4 p5:Nat} (ha:tameA a as1=⟨a.org % 3,(tameA a as1).path,nextF a.nxt,a.hm,(tameA a as1).med,a.hp,(tameA a as1).prf,false,(tameA a as1).cms⟩) {w:AV} {zc:List AV} (hz:zc.length=9) (h45:¬ p4=p5) (T4:T p4=some (.box zc)) (T5:T p5=some (.box (tCells a (tameA a as1).med (tameA a as1).prf (.sl 2 ((tameA a as1).path.map Seg.c)) w)))
 (ho:Own 1 σ ((tameA a as1).cms.map cU) w T) (hs:Store.sub σ T) (h4:σ p4=none) (h5:σ p5=none) (E:List (Nat×AV)) (v2:AV)
 (hr:∀ t',Store.sub σ t'→t' p4=some (.box (tameA a as1).c)→rr [(4,.ptr p4 0)] t'):bwp Try.prog Ts16.t25_98 ((2,v2)::(4,.ptr p4 0)::(5,.ptr p5 0)::E) T n rr xx:=by
 simp only [Ts16.t25_98]
 simp only [↓vcPre,↓z0,↓reduceIte,vcPost,vcStd,Nat.reduceEqDiff,reduceCtorEq,Nat.reduceAdd,Nat.reduceLeDiff,Int.reduceLT,Int.reduceLE,↓u_setN]
 refine WkQ.of (WeakE.ownBox (τ:=σ) p5 8 T5 rfl ho hs h5 fun U hU U5 hk=>WeakE.pure ?_)
 have U4:=hk p4 _ T4 h45 (fun m e=>by
  rcases ho with ⟨_,e2⟩ | ⟨g,e2,_,h3⟩
  ·rw [e2] at e;cases e
  ·rw [e2] at e;cases e;rw [T4] at h3;cases h3)
 have U5':U p5=some (.box (tameA a as1).c):=by rw [U5];rfl
 have e9:(tameA a as1).c.length=9:=rfl
 have t9:List.take 9 (tameA a as1).c=(tameA a as1).c:=rfl
 simp only [U5',U4,e9,t9,Nat.le_refl,↓vcPre,↓z0,↓reduceIte,vcPost,vcStd,Nat.reduceEqDiff,reduceCtorEq,Nat.reduceAdd,Nat.reduceLeDiff,Int.reduceLT,Int.reduceLE,↓u_setN]
 rw [x7 _ _ (by rw [hz];rfl),yi]
 exact hr _ (zb hU h4) (Store.set_same _ _ _)
theorem z4g (l:List Int) (k:Nat) (h:k<l.length):tameC (l.take (k+1))=putL (tameC (l.take k)) (tcm l[k]):=by
 unfold tameC
 rw [v4 _ _ h]
theorem z1d (l:List Int):(tameC l).length≤l.length:=by
 have:∀ (l:List Int) (b:List Int),(l.foldl (fun c x=>putL c (tcm x)) b).length≤b.length+l.length:=by
  intro l
  induction l with
  | nil=>intro b;simp
  | cons y r ih=>intro b;have h1:=ih (putL b (tcm y));have h2:=z2a b (tcm y);simp only [List.foldl_cons,List.length_cons];omega
 have:=this l []
 simpa [tameC] using this
set_option maxHeartbeats 1000000 in
theorem z8w {T:Store} {p2 p4 p5:Nat} (hac:True) {v5:AV} {zc:List AV} (hz:zc.length=9) (h45:¬ p4=p5) (h25:¬ p2=p5) (T2:T p2=some (.box a.c)) (T4:T p4=some (.box zc)) (T5:T p5=some (.box (tCells a (tameA a as1).med (tameA a as1).prf v5 .nils)))
 (hv:Own 2 σ ((tameA a as1).path.map Seg.c) v5 T) (hs:Store.sub σ T) (h2:σ p2=none) (h4:σ p4=none) (h5:σ p5=none) (E:List (Nat×AV))
 (hr:∀ t',Store.sub σ t'→t' p4=some (.box (tameA a as1).c)→rr [(4,.ptr p4 0)] t'):bwp Try.prog Ts16.t25_8 ((2,.ptr p2 0)::(4,.ptr p4 0)::(5,.ptr p5 0)::E) T n rr xx:=by
 simp only [Ts16.t25_8]
 have nb:∀ (q:Nat) (c:List AV),T q=some (.box c)→∀ m,v5 ≠ .os q 2 0 m:=fun q c h1 m e=>by
  rcases hv with ⟨_,e2⟩ | ⟨g,e2,_,h3⟩
  ·rw [e2] at e;cases e
  ·rw [e2] at e;cases e;rw [h1] at h3;cases h3
 simp only [↓vcPre,↓z0,↓reduceIte,vcPost,vcStd,Nat.reduceEqDiff,reduceCtorEq,Nat.reduceAdd,Nat.reduceLeDiff,Int.reduceLT,Int.reduceLE,↓u_setN]
 refine WkQ.of (WeakE.ownBox (τ:=σ) p5 1 T5 rfl hv hs h5 fun U hU U5 hk=>WeakE.pure ?_)
 have U2:=hk p2 _ T2 h25 (nb _ _ T2)
 have U4:=hk p4 _ T4 h45 (nb _ _ T4)
 have U5':U p5=some (.box (tCells a (tameA a as1).med (tameA a as1).prf (.sl 2 ((tameA a as1).path.map Seg.c)) .nils)):=by rw [U5];rfl
 have c8:∀ w:AV,List.take 1 (List.drop 8 (tCells a (tameA a as1).med (tameA a as1).prf (.sl 2 ((tameA a as1).path.map Seg.c)) w))=[w]:=fun _=>rfl
 have s8:∀ w w':AV,splice 8 [w'] (tCells a (tameA a as1).med (tameA a as1).prf (.sl 2 ((tameA a as1).path.map Seg.c)) w)=some (tCells a (tameA a as1).med (tameA a as1).prf (.sl 2 ((tameA a as1).path.map Seg.c)) w'):=fun _ _=>rfl
 have e9t:∀ w:AV,(tCells a (tameA a as1).med (tameA a as1).prf (.sl 2 ((tameA a as1).path.map Seg.c)) w).length=9:=fun _=>rfl
 have a8:List.take 1 (List.drop 8 a.c)=[.sl 1 (a.cms.map cU)]:=rfl
 have e9:a.c.length=9:=rfl
 simp only [↓vcPre,↓z0,↓reduceIte,vcPost,vcStd,Nat.reduceEqDiff,reduceCtorEq,Nat.reduceAdd,Nat.reduceLeDiff,Int.reduceLT,Int.reduceLE,↓u_setN]
 refine LoopQ.inv (S:=Nat×AV×Store) (fun q=>[(2,.ptr p2 0),(4,.ptr p4 0),(5,.ptr p5 0),(8,.int .i64 (q.1:Int))]) (fun q=>q.2.2)
  (fun q=>q.1≤a.cms.length∧q.1≤2∧Store.sub σ q.2.2∧q.2.2 p2=some (.box a.c)∧q.2.2 p4=some (.box zc)∧q.2.2 p5=some (.box (tCells a (tameA a as1).med (tameA a as1).prf (.sl 2 ((tameA a as1).path.map Seg.c)) q.2.1))∧Own 1 σ ((tameC (a.cms.take q.1)).map cU) q.2.1 q.2.2)
  (fun q=>3 - q.1) (0,.nils,U) rfl (Store.sub_refl _) ⟨by simp only;omega,by simp only;omega,hU,U2,U4,U5',Own.nil⟩ ?_
 rintro ⟨k,w,s⟩ ⟨hk1,hk2,i1,i2,i4,i5,i6⟩
 simp only at hk1 hk2 i1 i2 i4 i5 i6
 simp only [i2,a8,e9,↓vcPre,↓z0,↓reduceIte,vcPost,vcStd,Nat.reduceEqDiff,reduceCtorEq,Nat.reduceAdd,Nat.reduceLeDiff,Int.reduceLT,Int.reduceLE,↓u_setN]
 refine ⟨fun c1=>⟨fun c2 => ?_,fun c2 => ?_⟩,fun c1 => ?_⟩
 ·have ek:IntKind.i64.wrap ((k:Int)+1)=((k+1:Nat):Int):=by rw [zj (by unfold I64;omega)];omega
  refine ⟨c1,by simp [cU],?_⟩
  simp only [cU,i5,c8,e9t,↓vcPre,↓z0,↓reduceIte,vcPost,vcStd,Nat.reduceEqDiff,reduceCtorEq,Nat.reduceAdd,Nat.reduceLeDiff,Int.reduceLT,Int.reduceLE,↓u_setN]
  obtain ⟨τ0,q1,q2,q3,q4⟩:=Own.split i1 i6
  have hlen:=z1d (a.cms.take k)
  rw [List.length_take] at hlen
  have put:∀ y:Int,y=tcm a.cms[k]→ACalls Try.prog 33 [w,.int .u32 y] s (fun r s'=>Store.sub τ0 s'∧Own 1 τ0 ((tameC (a.cms.take (k+1))).map cU) r s'):=fun y hy=>by
   subst hy
   rw [z4g _ _ c1]
   exact s33 q2 _ _ (by omega) q4
  have done:∀ r s',Store.sub τ0 s'→Own 1 τ0 ((tameC (a.cms.take (k+1))).map cU) r s'→Store.sub σ (s'.set p5 (.box (tCells a (tameA a as1).med (tameA a as1).prf (.sl 2 ((tameA a as1).path.map Seg.c)) r)))∧(s'.set p5 (.box (tCells a (tameA a as1).med (tameA a as1).prf (.sl 2 ((tameA a as1).path.map Seg.c)) r))) p2=some (.box a.c)∧(s'.set p5 (.box (tCells a (tameA a as1).med (tameA a as1).prf (.sl 2 ((tameA a as1).path.map Seg.c)) r))) p4=some (.box zc)∧Own 1 σ ((tameC (a.cms.take (k+1))).map cU) r (s'.set p5 (.box (tCells a (tameA a as1).med (tameA a as1).prf (.sl 2 ((tameA a as1).path.map Seg.c)) r))):=fun r s' z1 z2=>by
   have z5:=z1 _ _ (q3 _ _ i5 (fun M e=>by cases e))
   exact ⟨zb (Store.sub_trans q1 z1) h5,by rw [Store.set_ne _ _ h25];exact z1 _ _ (q3 _ _ i2 (fun M e=>by cases e)),by rw [Store.set_ne _ _ h45];exact z1 _ _ (q3 _ _ i4 (fun M e=>by cases e)),(z2.weak q1).setId z5 (fun M e=>by cases e)⟩
  have fin:∀ y:Int,y=tcm a.cms[k]→ACalls Try.prog 33 [w,.int .u32 y] s (fun r s'=>r.isTup=false∧r.cells=[r]∧s' p5=some (.box (tCells a (tameA a as1).med (tameA a as1).prf (.sl 2 ((tameA a as1).path.map Seg.c)) w))∧Store.sub τ0 s'∧Own 1 τ0 ((tameC (a.cms.take (k+1))).map cU) r s'):=fun y hy=>(put y hy).mono fun r s' ⟨z1,z2⟩=>⟨z2.cell.1,z2.cell.2,z1 _ _ (q3 _ _ i5 (fun M e=>by cases e)),z1,z2⟩
  refine ⟨by decide,fun g=>⟨c1,by decide,?_⟩,fun g => ?_⟩
  ·refine (fin _ (by unfold tcm;rw [if_pos g])).Q ?_
   rintro r s' ⟨f1,f2,f3,z1,z2⟩
   simp only [f1,f2,f3,s8,ek,↓vcPre,↓z0,↓reduceIte,vcPost,vcStd,Nat.reduceEqDiff,reduceCtorEq,Nat.reduceAdd,Nat.reduceLeDiff,Int.reduceLT,Int.reduceLE,↓u_setN]
   obtain ⟨d1,d2,d3,d4⟩:=done r s' z1 z2
   exact NextQ.to (k+1,r,_) rfl (Store.sub_refl _) (by simp only;omega) ⟨by simp only;omega,by simp only;omega,d1,d2,d3,Store.set_same _ _ _,d4⟩
  ·refine (fin _ (by unfold tcm;rw [if_neg g])).Q ?_
   rintro r s' ⟨f1,f2,f3,z1,z2⟩
   simp only [f1,f2,f3,s8,ek,↓vcPre,↓z0,↓reduceIte,vcPost,vcStd,Nat.reduceEqDiff,reduceCtorEq,Nat.reduceAdd,Nat.reduceLeDiff,Int.reduceLT,Int.reduceLE,↓u_setN]
   obtain ⟨d1,d2,d3,d4⟩:=done r s' z1 z2
   exact NextQ.to (k+1,r,_) rfl (Store.sub_refl _) (by simp only;omega) ⟨by simp only;omega,by simp only;omega,d1,d2,d3,Store.set_same _ _ _,d4⟩
 all_goals
  have e:a.cms.take k=a.cms.take 2:=by
   by_cases h:k=2
   ·rw [h]
   ·rw [List.take_of_length_le (by omega),List.take_of_length_le (by omega)]
  rw [e] at i6
  exact z7d (as1:=as1) rfl hz h45 i4 i5 i6 i1 h4 h5 _ _ hr
theorem z2p {T:Store} {p2 p4 p5 p6:Nat} {L:List Int} {v:AV} (hac:True) {zc:List AV} (hz:zc.length=9) (h45:¬ p4=p5) (h25:¬ p2=p5) (h26:¬ p2=p6) (h46:¬ p4=p6) (h56:¬ p5=p6) (T2:T p2=some (.box a.c)) (T4:T p4=some (.box zc)) (T5:T p5=some (.box (tCells a (tameA a as1).med (tameA a as1).prf .nils .nils)))
 (T6:T p6=some (.box [.int .i64 2,v])) (hL:(tameA a as1).path=[⟨2,L⟩]) (ho:Own 1 σ (L.map cU) v T) (hs:Store.sub σ T) (h2:σ p2=none) (h4:σ p4=none) (h5:σ p5=none) (h6:σ p6=none) (E:List (Nat×AV))
 (hr:∀ t',Store.sub σ t'→t' p4=some (.box (tameA a as1).c)→rr [(4,.ptr p4 0)] t'):bwp Try.prog Ts16.t25_63 ((2,.ptr p2 0)::(4,.ptr p4 0)::(5,.ptr p5 0)::(6,.ptr p6 0)::E) T n rr xx:=by
 simp only [Ts16.t25_63]
 have nb:∀ (q:Nat) (c:List AV),T q=some (.box c)→∀ m,v ≠ .os q 1 0 m:=fun q c h1 m e=>by
  rcases ho with ⟨_,e2⟩ | ⟨g,e2,_,h3⟩
  ·rw [e2] at e;cases e
  ·rw [e2] at e;cases e;rw [h1] at h3;cases h3
 simp only [↓vcPre,↓z0,↓reduceIte,vcPost,vcStd,Nat.reduceEqDiff,reduceCtorEq,Nat.reduceAdd,Nat.reduceLeDiff,Int.reduceLT,Int.reduceLE,↓u_setN]
 refine WkQ.of (WeakE.ownBox (τ:=σ) p6 1 T6 rfl ho hs h6 fun U hU U6 hk=>WeakE.pure ?_)
 have U2:=hk p2 _ T2 h26 (nb _ _ T2)
 have U4:=hk p4 _ T4 h46 (nb _ _ T4)
 have U5:=hk p5 _ T5 h56 (nb _ _ T5)
 have U6':U p6=some (.box [.int .i64 2,.sl 1 (L.map cU)]):=U6
 simp only [U6',↓vcPre,↓z0,↓reduceIte,vcPost,vcStd,Nat.reduceEqDiff,reduceCtorEq,Nat.reduceAdd,Nat.reduceLeDiff,Int.reduceLT,Int.reduceLE,↓u_setN]
 refine AllocQ.i0 fun d hd => ?_
 have h5d:¬ p5=d:=fun e=>by subst e;rw [U5] at hd;cases hd
 have hd5:¬ d=p5:=fun e=>h5d e.symm
 have h2d:¬ p2=d:=fun e=>by subst e;rw [U2] at hd;cases hd
 have h4d:¬ p4=d:=fun e=>by subst e;rw [U4] at hd;cases hd
 have sp1:splice 1 [.os d 2 0 1] (tCells a (tameA a as1).med (tameA a as1).prf .nils .nils)=some (tCells a (tameA a as1).med (tameA a as1).prf (.os d 2 0 1) .nils):=rfl
 simp only [U5,h5d,hd5,sp1,↓vcPre,↓z0,↓reduceIte,vcPost,vcStd,Nat.reduceEqDiff,reduceCtorEq,Nat.reduceAdd,Nat.reduceLeDiff,Int.reduceLT,Int.reduceLE,↓u_setN]
 have hσd:σ d=none:=zk hU hd
 have V5:((U.set d (.arr 2 [[.int .i64 2,.sl 1 (L.map cU)]])).set p5 (.box (tCells a (tameA a as1).med (tameA a as1).prf (.os d 2 0 1) .nils))) p5=some (.box (tCells a (tameA a as1).med (tameA a as1).prf (.os d 2 0 1) .nils)):=Store.set_same _ _ _
 have hv:Own 2 σ ((tameA a as1).path.map Seg.c) (.os d 2 0 1) ((U.set d (.arr 2 [[.int .i64 2,.sl 1 (L.map cU)]])).set p5 (.box (tCells a (tameA a as1).med (tameA a as1).prf (.os d 2 0 1) .nils))):=by
  rw [hL]
  exact .inr ⟨d,rfl,hσd,by rw [Store.set_ne _ _ hd5];exact Store.set_same _ _ _⟩
 refine z8w hac hz h45 h25 ?_ ?_ V5 hv (zb (zb hU hσd) h5) h2 h4 h5 _ hr
 ·rw [Store.set_ne _ _ h25,Store.set_ne _ _ h2d];exact U2
 ·rw [Store.set_ne _ _ h45,Store.set_ne _ _ h4d];exact U4
set_option maxHeartbeats 1000000 in
theorem z2o {T:Store} {p2 p4 p5:Nat} (hac:True) {zc:List AV} (hz:zc.length=9) (h45:¬ p4=p5) (h25:¬ p2=p5) (T2:T p2=some (.box a.c)) (T4:T p4=some (.box zc)) (T5:T p5=some (.box (tCells a (tameA a as1).med (tameA a as1).prf .nils .nils)))
 (hs:Store.sub σ T) (h2:σ p2=none) (h4:σ p4=none) (h5:σ p5=none) (e:Env) {bb:Bool} (he:e=[(1,.int .u32 as1),(2,.ptr p2 0),(4,.ptr p4 0),(5,.ptr p5 0)]∨e=[(1,.int .u32 as1),(2,.ptr p2 0),(4,.ptr p4 0),(5,.ptr p5 0),(28,.bool bb)])
 (hr:∀ t',Store.sub σ t'→t' p4=some (.box (tameA a as1).c)→rr [(4,.ptr p4 0)] t'):bwp Try.prog Ts16.t25_34 e T n rr xx:=by
 simp only [Ts16.t25_34]
 have a1:List.take 1 (List.drop 1 a.c)=[.sl 2 (a.path.map Seg.c)]:=rfl
 have e9:a.c.length=9:=rfl
 rcases he with rfl | rfl
 all_goals
  simp only [↓vcPre,↓z0,↓reduceIte,vcPost,vcStd,Nat.reduceEqDiff,reduceCtorEq,Nat.reduceAdd,Nat.reduceLeDiff,Int.reduceLT,Int.reduceLE,↓u_setN]
  refine AllocQ.i0 fun q hq => ?_
  simp only [↓vcPre,↓z0,↓reduceIte,vcPost,vcStd,Nat.reduceEqDiff,reduceCtorEq,Nat.reduceAdd,Nat.reduceLeDiff,Int.reduceLT,Int.reduceLE,↓u_setN]
  refine AllocQ.i1 fun p6 h6q hq6 hp6 => ?_
  have sp0:splice 0 [.int .i64 2,.os q 1 0 1] [.int .i64 0,.nils]=some [.int .i64 2,.os q 1 0 1]:=rfl
  simp only [sp0,h6q,hq6,↓vcPre,↓z0,↓reduceIte,vcPost,vcStd,Nat.reduceEqDiff,reduceCtorEq,Nat.reduceAdd,Nat.reduceLeDiff,Int.reduceLT,Int.reduceLE,↓u_setN]
  have h2q:¬ p2=q:=fun e=>by subst e;rw [T2] at hq;cases hq
  have h4q:¬ p4=q:=fun e=>by subst e;rw [T4] at hq;cases hq
  have h5q:¬ p5=q:=fun e=>by subst e;rw [T5] at hq;cases hq
  have h26:¬ p2=p6:=fun e=>by subst e;rw [T2] at hp6;cases hp6
  have h46:¬ p4=p6:=fun e=>by subst e;rw [T4] at hp6;cases hp6
  have h56:¬ p5=p6:=fun e=>by subst e;rw [T5] at hp6;cases hp6
  have hσq:σ q=none:=zk hs hq
  have hσ6:σ p6=none:=zk hs hp6
  have sU:Store.sub T (((T.set q (.arr 1 [[.int .u32 as1]])).set p6 (.box [.int .i64 0,.nils])).set p6 (.box [.int .i64 2,.os q 1 0 1])):=zb (zq hq hp6 h6q) hp6
  have U6:(((T.set q (.arr 1 [[.int .u32 as1]])).set p6 (.box [.int .i64 0,.nils])).set p6 (.box [.int .i64 2,.os q 1 0 1])) p6=some (.box [.int .i64 2,.os q 1 0 1]):=Store.set_same _ _ _
  have oU:Own 1 σ (([as1]:List Int).map cU) (.os q 1 0 1) (((T.set q (.arr 1 [[.int .u32 as1]])).set p6 (.box [.int .i64 0,.nils])).set p6 (.box [.int .i64 2,.os q 1 0 1])) := .inr ⟨q,rfl,hσq,by rw [Store.set_ne _ _ hq6,Store.set_ne _ _ hq6];exact Store.set_same _ _ _⟩
  generalize ((T.set q (.arr 1 [[.int .u32 as1]])).set p6 (.box [.int .i64 0,.nils])).set p6 (.box [.int .i64 2,.os q 1 0 1])=U at sU U6 oU ⊢
  refine LoopQ.inv (S:=Nat×AV×Store) (fun w=>[(2,.ptr p2 0),(4,.ptr p4 0),(5,.ptr p5 0),(6,.ptr p6 0),(7,.int .i64 (w.1:Int))]) (fun w=>w.2.2)
   (fun w=>w.1≤a.path.length∧w.1≤2∧Store.sub σ w.2.2∧w.2.2 p2=some (.box a.c)∧w.2.2 p4=some (.box zc)∧w.2.2 p5=some (.box (tCells a (tameA a as1).med (tameA a as1).prf .nils .nils))∧w.2.2 p6=some (.box [.int .i64 2,w.2.1])∧Own 1 σ ((as1::(a.path.take w.1).map segN).map cU) w.2.1 w.2.2)
   (fun w=>3 - w.1) (0,.os q 1 0 1,U) rfl (Store.sub_refl _) ⟨by simp only;omega,by simp only;omega,Store.sub_trans hs sU,sU _ _ T2,sU _ _ T4,sU _ _ T5,U6,oU⟩ ?_
  rintro ⟨k,w,s⟩ ⟨hk1,hk2,i1,i2,i4,i5,i6,i7⟩
  simp only at hk1 hk2 i1 i2 i4 i5 i6 i7
  simp only [i2,a1,e9,↓vcPre,↓z0,↓reduceIte,vcPost,vcStd,Nat.reduceEqDiff,reduceCtorEq,Nat.reduceAdd,Nat.reduceLeDiff,Int.reduceLT,Int.reduceLE,↓u_setN]
  refine ⟨fun c1=>⟨fun c2 => ?_,fun c2 => ?_⟩,fun c1 => ?_⟩
  rotate_left 1
  ·have e:a.path.take k=a.path.take 2:=by
    have:k=2:=by omega
    rw [this]
   rw [e] at i7
   exact z2p hac hz h45 h25 h26 h46 h56 i2 i4 i5 i6 rfl i7 i1 h2 h4 h5 hσ6 _ hr
  ·have e:a.path.take k=a.path.take 2:=by
    rw [List.take_of_length_le (by omega),List.take_of_length_le (by omega)]
   rw [e] at i7
   exact z2p hac hz h45 h25 h26 h46 h56 i2 i4 i5 i6 rfl i7 i1 h2 h4 h5 hσ6 _ hr
  ·have ek:IntKind.i64.wrap ((k:Int)+1)=((k+1:Nat):Int):=by rw [zj (by unfold I64;omega)];omega
   simp only [i2,i6,a1,e9,↓vcPre,↓z0,↓reduceIte,vcPost,vcStd,Nat.reduceEqDiff,reduceCtorEq,Nat.reduceAdd,Nat.reduceLeDiff,Int.reduceLT,Int.reduceLE,↓u_setN]
   refine ⟨c1,by simp [Seg.c],?_⟩
   simp only [Seg.c,↓vcPre,↓z0,↓reduceIte,vcPost,vcStd,Nat.reduceEqDiff,reduceCtorEq,Nat.reduceAdd,Nat.reduceLeDiff,Int.reduceLT,Int.reduceLE,↓u_setN]
   refine ⟨by decide,AllocQ.i0 fun d hd => ?_⟩
   simp only [↓vcPre,↓z0,↓reduceIte,vcPost,vcStd,Nat.reduceEqDiff,reduceCtorEq,Nat.reduceAdd,Nat.reduceLeDiff,Int.reduceLT,Int.reduceLE,↓u_setN]
   have hseg:IntKind.u32.wrap (64500+IntKind.u32.wrap (Int.tmod ((a.path[k]'c1).ls.length:Int) 4))=segN (a.path[k]'c1):=rfl
   rw [hseg]
   have sd:=Store.sub_set s d (.arr 1 [[.int .u32 (segN (a.path[k]'c1))]]) hd
   refine Own.appP (bytes:=4) (τ:=σ) (ys:=[[.int .u32 (segN (a.path[k]'c1))]]) (Store.sub_trans i1 sd) (i7.mono sd) (zw (Store.set_same _ _ _) rfl) (by simp;omega) fun v' s' hs' ho' hk' => ?_
   have z2:=hk' _ _ (sd _ _ i2) (fun M e=>by cases e)
   have z4:=hk' _ _ (sd _ _ i4) (fun M e=>by cases e)
   have z5:=hk' _ _ (sd _ _ i5) (fun M e=>by cases e)
   have z6:=hk' _ _ (sd _ _ i6) (fun M e=>by cases e)
   have spx:∀ x y:AV,splice 1 [x] [.int .i64 2,y]=some [.int .i64 2,x]:=fun _ _=>rfl
   simp only [z6,ho'.cell.1,ho'.cell.2,spx,ek,↓vcPre,↓z0,↓reduceIte,vcPost,vcStd,Nat.reduceEqDiff,reduceCtorEq,Nat.reduceAdd,Nat.reduceLeDiff,Int.reduceLT,Int.reduceLE,↓u_setN]
   refine NextQ.to (k+1,v',s'.set p6 (.box [.int .i64 2,v'])) rfl (Store.sub_refl _) (by simp only;omega) ⟨by simp only;omega,by simp only;omega,zb hs' hσ6,(Store.set_ne _ _ h26).trans z2,(Store.set_ne _ _ h46).trans z4,(Store.set_ne _ _ h56).trans z5,Store.set_same _ _ _,?_⟩
   have ex:((as1::(a.path.take (k+1)).map segN).map cU)=((as1::(a.path.take k).map segN).map cU)++[[.int .u32 (segN (a.path[k]'c1))]]:=by
    rw [List.take_succ_eq_append_getElem c1,List.map_append,←List.cons_append,List.map_append];rfl
   simp only
   rw [ex]
   exact ho'.setId z6 (fun M e=>by cases e)
theorem z7c {T:Store} {p2 p4 p5:Nat} (hac:True) {zc:List AV} (hz:zc.length=9) (h45:¬ p4=p5) (h25:¬ p2=p5) (T2:T p2=some (.box a.c)) (T4:T p4=some (.box zc)) (T5:T p5=some (.box (tCells a (tameA a as1).med 0 .nils .nils)))
 (hs:Store.sub σ T) (h2:σ p2=none) (h4:σ p4=none) (h5:σ p5=none) (E:List (Nat×AV))
 (hr:∀ t',Store.sub σ t'→t' p4=some (.box (tameA a as1).c)→rr [(4,.ptr p4 0)] t'):bwp Try.prog Ts16.t25_27 ((1,.int .u32 as1)::(2,.ptr p2 0)::(4,.ptr p4 0)::(5,.ptr p5 0)::E) T n rr xx:=by
 simp only [Ts16.t25_27]
 have a5:List.take 1 (List.drop 5 a.c)=[.bool a.hp]:=rfl
 have a6:List.take 1 (List.drop 6 a.c)=[.int .u32 a.prf]:=rfl
 have e9:a.c.length=9:=rfl
 simp only [T2,a5,e9,↓vcPre,↓z0,↓reduceIte,vcPost,vcStd,Nat.reduceEqDiff,reduceCtorEq,Nat.reduceAdd,Nat.reduceLeDiff,Int.reduceLT,Int.reduceLE,↓u_setN]
 have hpf:(tameA a as1).prf=if a.hp then IntKind.u32.wrap (100+Int.tmod a.prf 3) else 0:=rfl
 cases h:a.hp
 ·rw [h] at hpf
  simp only [Bool.false_eq_true,if_false] at hpf
  rw [←hpf] at T5
  simp only [↓vcPre,↓z0,↓reduceIte,vcPost,vcStd,Nat.reduceEqDiff,reduceCtorEq,Nat.reduceAdd,Nat.reduceLeDiff,Int.reduceLT,Int.reduceLE,↓u_setN]
  exact z2o hac hz h45 h25 T2 T4 T5 hs h2 h4 h5 _ (.inr rfl) hr
 ·rw [h] at hpf
  simp only [if_true] at hpf
  have s6:∀ y:Int,splice 6 [.int .u32 y] (tCells a (tameA a as1).med 0 .nils .nils)=some (tCells a (tameA a as1).med y .nils .nils):=fun _=>rfl
  simp only [T2,T5,a6,e9,s6,↓vcPre,↓z0,↓reduceIte,vcPost,vcStd,Nat.reduceEqDiff,reduceCtorEq,Nat.reduceAdd,Nat.reduceLeDiff,Int.reduceLT,Int.reduceLE,↓u_setN]
  refine ⟨by decide,?_⟩
  rw [←hpf]
  exact z2o (bb:=true) hac hz h45 h25 (by rw [Store.set_ne _ _ h25];exact T2) (by rw [Store.set_ne _ _ h45];exact T4) (Store.set_same _ _ _) (zb hs h5) h2 h4 h5 _ (.inl rfl) hr
end
set_option maxHeartbeats 1000000 in
theorem c25 (a:At) (ho:I64 a.org) (as1:Int):Pur Try.prog 25 [.agg a.c,.int .u32 as1] (.agg (tameA a as1).c):=by
 refine zp Ts16.F25 (by simp [Ts16.F25,Fn.mkW]) fun σ => ?_
 simp only [Ts16.F25,Fn.mkW,Ts16.b25,x9]
 have e9:∀ x:At,x.c.length=9:=fun _=>rfl
 have t9:∀ x:At,List.take 9 x.c=x.c:=fun _=>rfl
 have a0:List.take 1 a.c=[.int .i64 a.org]:=rfl
 have a2:List.take 1 (List.drop 2 a.c)=[.int .u32 a.nxt]:=rfl
 have a3:List.take 1 (List.drop 3 a.c)=[.bool a.hm]:=rfl
 have a4:List.take 1 (List.drop 4 a.c)=[.int .u32 a.med]:=rfl
 have a5:List.take 1 (List.drop 5 a.c)=[.bool a.hp]:=rfl
 simp only [↓vcPre,↓z0,↓reduceIte,vcPost,vcStd,Nat.reduceEqDiff,reduceCtorEq,Nat.reduceAdd,Nat.reduceLeDiff,Int.reduceLT,Int.reduceLE,↓u_setN]
 refine AllocQ.i0 fun p2 hp2 => ?_
 simp only [↓vcPre,↓z0,↓reduceIte,vcPost,vcStd,Nat.reduceEqDiff,reduceCtorEq,Nat.reduceAdd,Nat.reduceLeDiff,Int.reduceLT,Int.reduceLE,↓u_setN]
 refine AllocQ.i1 fun p4 h42 h24 hp4 => ?_
 simp only [↓vcPre,↓z0,↓reduceIte,vcPost,vcStd,Nat.reduceEqDiff,reduceCtorEq,Nat.reduceAdd,Nat.reduceLeDiff,Int.reduceLT,Int.reduceLE,↓u_setN]
 have sT:Store.sub σ ((σ.set p2 (.box a.c)).set p4 (.box zCells)):=zq hp2 hp4 h42
 have T4:((σ.set p2 (.box a.c)).set p4 (.box zCells)) p4=some (.box zCells):=Store.set_same _ _ _
 have T2:((σ.set p2 (.box a.c)).set p4 (.box zCells)) p2=some (.box a.c):=by rw [Store.set_ne _ _ h24];exact Store.set_same _ _ _
 generalize (σ.set p2 (.box a.c)).set p4 (.box zCells)=T at sT T4 T2 ⊢
 simp only [T2,a0,a2,a3,a5,e9,↓vcPre,↓z0,↓reduceIte,vcPost,vcStd,Nat.reduceEqDiff,reduceCtorEq,Nat.reduceAdd,Nat.reduceLeDiff,Int.reduceLT,Int.reduceLE,↓u_setN]
 have hw:=c48 a.org 0 2 ho (by omega) (by omega) (by omega)
 rw [show (0:Int)+a.org % (2 - 0+1)=a.org % 3 by omega] at hw
 refine hw.Q ?_
 simp only [T2,a2,e9,↓vcPre,↓z0,↓reduceIte,vcPost,vcStd,Nat.reduceEqDiff,reduceCtorEq,Nat.reduceAdd,Nat.reduceLeDiff,Int.reduceLT,Int.reduceLE,↓u_setN]
 refine (c50 a.nxt).Q ?_
 simp only [T2,a3,a5,e9,↓vcPre,↓z0,↓reduceIte,vcPost,vcStd,Nat.reduceEqDiff,reduceCtorEq,Nat.reduceAdd,Nat.reduceLeDiff,Int.reduceLT,Int.reduceLE,↓u_setN]
 have sp0:splice 0 [AV.int .i64 (a.org % 3)] zCells=some [.int .i64 (a.org % 3),.nils,.int .u32 0,.bool false,.int .u32 0,.bool false,.int .u32 0,.bool false,.nils]:=rfl
 have sp2:splice 2 [AV.int .u32 (nextF a.nxt)] [.int .i64 (a.org % 3),.nils,.int .u32 0,.bool false,.int .u32 0,.bool false,.int .u32 0,.bool false,.nils]=some [.int .i64 (a.org % 3),.nils,.int .u32 (nextF a.nxt),.bool false,.int .u32 0,.bool false,.int .u32 0,.bool false,.nils]:=rfl
 have sp3:splice 3 [AV.bool a.hm] [.int .i64 (a.org % 3),.nils,.int .u32 (nextF a.nxt),.bool false,.int .u32 0,.bool false,.int .u32 0,.bool false,.nils]=some [.int .i64 (a.org % 3),.nils,.int .u32 (nextF a.nxt),.bool a.hm,.int .u32 0,.bool false,.int .u32 0,.bool false,.nils]:=rfl
 have sp5:splice 5 [AV.bool a.hp] [.int .i64 (a.org % 3),.nils,.int .u32 (nextF a.nxt),.bool a.hm,.int .u32 0,.bool false,.int .u32 0,.bool false,.nils]=some (tCells a 0 0 .nils .nils):=rfl
 simp only [sp0,sp2,sp3,sp5,yi]
 refine AllocQ.i0 fun p5 hp5 => ?_
 have h25:¬ p2=p5:=fun e=>by subst e;rw [T2] at hp5;cases hp5
 have h45:¬ p4=p5:=fun e=>by subst e;rw [T4] at hp5;cases hp5
 have h52:¬ p5=p2:=fun e=>h25 e.symm
 have hσ5:σ p5=none:=zk sT hp5
 have hz:zCells.length=9:=rfl
 have et:∀ m p v w,(tCells a m p v w).length=9:=fun _ _ _ _=>rfl
 have hs9:splice 0 (tCells a 0 0 .nils .nils) zCells=some (tCells a 0 0 .nils .nils):=rfl
 have hm:(tameA a as1).med=if a.hm then Int.tmod a.med 3 else 0:=rfl
 have s4:∀ y:Int,splice 4 [.int .u32 y] (tCells a 0 0 .nils .nils)=some (tCells a y 0 .nils .nils):=fun _=>rfl
 have fin:∀ t',Store.sub σ t'→t' p4=some (.box (tameA a as1).c)→(fun (e:Env) (τ:Store)=>((e.get 4).bind fun p=>Option.map AV.agg (rd τ 9 p))=some (AV.agg (tameA a as1).c)∧Store.sub σ τ) [(4,.ptr p4 0)] t':=fun t' h1 h2=>by
  refine ⟨?_,h1⟩
  have hr:rd t' 9 (.ptr p4 0)=some (tameA a as1).c:=by simp only [rd,h2];rfl
  simp [Env.get,hr]
 have key:∀ (n:Env→Store→Prop) (xx:Nat→Env→Store→Prop) (U:Store) (E:List (Nat×AV)),Store.sub σ U→U p2=some (.box a.c)→U p4=some (.box zCells)→U p5=some (.box (tCells a (tameA a as1).med 0 .nils .nils))→bwp Try.prog Ts16.t25_27 ((1,.int .u32 as1)::(2,.ptr p2 0)::(4,.ptr p4 0)::(5,.ptr p5 0)::E) U n (fun e τ=>((e.get 4).bind fun p=>Option.map AV.agg (rd τ 9 p))=some (AV.agg (tameA a as1).c)∧Store.sub σ τ) xx:=fun n xx U E z1 z2 z3 z4 =>
  z7c trivial hz h45 h25 z2 z3 z4 z1 hp2 hp4 hσ5 E fin
 have sU:Store.sub σ ((T.set p5 (.box zCells)).set p5 (.box (tCells a 0 0 .nils .nils))):=zb (zb sT hσ5) hσ5
 have U5:((T.set p5 (.box zCells)).set p5 (.box (tCells a 0 0 .nils .nils))) p5=some (.box (tCells a 0 0 .nils .nils)):=Store.set_same _ _ _
 have U2:((T.set p5 (.box zCells)).set p5 (.box (tCells a 0 0 .nils .nils))) p2=some (.box a.c):=by rw [Store.set_ne _ _ h25,Store.set_ne _ _ h25];exact T2
 have U4:((T.set p5 (.box zCells)).set p5 (.box (tCells a 0 0 .nils .nils))) p4=some (.box zCells):=by rw [Store.set_ne _ _ h45,Store.set_ne _ _ h45];exact T4
 simp only [hs9,et,hz,↓vcPre,↓z0,↓reduceIte,vcPost,vcStd,Nat.reduceEqDiff,reduceCtorEq,Nat.reduceAdd,Nat.reduceLeDiff,Int.reduceLT,Int.reduceLE,↓u_setN]
 generalize (T.set p5 (.box zCells)).set p5 (.box (tCells a 0 0 .nils .nils))=U at sU U2 U4 U5 ⊢
 simp only [U2,a3,e9,↓vcPre,↓z0,↓reduceIte,vcPost,vcStd,Nat.reduceEqDiff,reduceCtorEq,Nat.reduceAdd,Nat.reduceLeDiff,Int.reduceLT,Int.reduceLE,↓u_setN]
 cases h:a.hm
 ·rw [h] at hm
  simp only [Bool.false_eq_true,if_false] at hm
  simp only [↓vcPre,↓z0,↓reduceIte,vcPost,vcStd,Nat.reduceEqDiff,reduceCtorEq,Nat.reduceAdd,Nat.reduceLeDiff,Int.reduceLT,Int.reduceLE,↓u_setN]
  refine key _ _ U _ sU U2 U4 ?_
  rw [hm]
  exact U5
 ·rw [h] at hm
  simp only [if_true] at hm
  simp only [U2,U5,a4,s4,e9,et,↓vcPre,↓z0,↓reduceIte,vcPost,vcStd,Nat.reduceEqDiff,reduceCtorEq,Nat.reduceAdd,Nat.reduceLeDiff,Int.reduceLT,Int.reduceLE,↓u_setN]
  refine ⟨by decide,key _ _ _ [] (zb sU hσ5) ((Store.set_ne _ _ h25).trans U2) ((Store.set_ne _ _ h45).trans U4) ?_⟩
  rw [hm]
  exact Store.set_same _ _ _
end Go.Am
namespace Go.Am.Ts17
open Go.Proofs Go.Am.B
def t23_73:BC := .ops [m 73 3,⟨some 74,none,.load (.ld 12 true),[.t 6]⟩,⟨some 75,none,.alloc (.mksl 12 1),[.t 74]⟩,⟨some 76,none,.loud (.app 12 72),[.t 73,.t 75]⟩,m 3 76] [0,3,4]
def t23_64:BC := .seq (z [f 64 4 5,l 65 1 64,p 66 (.bin .rem) [.t 65,.c (.int .u32 3)],p 67 (.bin .eql) [.t 66,.c (.int .u32 1)]] [0,3,4,5,6,67] (.cond (.t 67) (.ops [f 68 4 5,l 69 1 68,p 70 (.bin .rem) [.t 69,.c (.int .u32 4)],p 71 (.bin .add) [.c (.int .u32 1),.t 70],f 72 4 6,s 1 72 71] [0,3,4,6]) .skip)) t23_73
def t23_58:BC := .seq (z [f 58 8 5,l 59 1 58] [0,3,4,5,6,59] (.cond (.t 59) (.ops [f 60 9 5,l 61 1 60,p 62 (.bin .rem) [.t 61,.c (.int .u32 4)],f 63 9 6,s 1 63 62] [0,3,4,5,6]) .skip)) t23_64
def t23_51:BC := .seq (z [f 51 6 5,l 52 1 51] [0,3,4,5,6,52] (.cond (.t 52) (.ops [f 53 7 5,l 54 1 53,p 55 (.bin .rem) [.t 54,.c (.int .u32 30)],p 56 (.bin .add) [.c (.int .u32 90),.t 55],f 57 7 6,s 1 57 56] [0,3,4,5,6]) .skip)) t23_58
def t23_45:BC := .seq (z [f 45 2 5,l 46 1 45,c 47 .rem 46 2,c 48 .eql 47 0] [0,3,4,5,6,48] (.cond (.t 48) (z [f 49 2 6,⟨none,none,.loud (.st 1),[.t 49,.c (.int .i64 9)]⟩] [0,3,4,5,6] (.ops [f 50 3 6,⟨none,none,.loud (.st 1),[.t 50,.c (.int .i64 12)]⟩] [0,3,4,5,6])) .skip)) t23_51
def b23:BC:=z [k 2 .nils] [0] (z [k 3 .nils] [0,3] (.seq (z [j 4 0] [0,3,4] (.block 0 (.loop [0,3,4] (.seq (z [m 7 4,m 8 0,u 9 .len 8,b 10 .lss 7 9,m 11 10,⟨some 12,some (11,true),.pure (.mov),[.t 4]⟩,⟨some 13,some (11,true),.pure (.bin .lss),[.t 12,.c (.int .i64 3)]⟩,⟨some 14,none,.pick,[.t 11,.t 13,.c (.bool false)]⟩] [0,3,4,14] (.cond (.t 14) .skip (.exit 0))) (.seq (.block 1 (z [m 17 0,m 18 4,x 19 12 17 18,⟨some 20,none,.load (.ld 12 true),[.t 19]⟩,⟨some 5,none,.alloc (.alloc [(.int .u32 0),(.int .i64 0),(.int .i64 0),(.int .i64 0),(.int .u32 0),(.bool false),(.bool false),(.int .u32 0),(.bool false),(.int .u32 0),(.int .i64 0),(.int .u32 0)]),[]⟩,s 12 5 20] [0,3,4,5] (z [f 21 0 5,f 22 0 21,f 24 0 5,f 25 1 24,f 28 5 5,f 34 6 5,f 36 8 5,f 38 10 5,f 41 11 5,l 23 1 22,l 26 1 25,l 29 1 28,l 35 1 34,l 37 1 36,l 39 1 38,l 42 1 41,p 43 (.bin .rem) [.t 42,.c (.int .u32 4)],⟨some 27,none,.qcall 24,[.t 23,.t 26]⟩,m 30 29,⟨some 31,some (30,true),.pure (.mov),[.t 4]⟩,⟨some 32,some (30,true),.pure (.bin .eql),[.t 31,.c (.int .i64 0)]⟩,⟨some 33,none,.pick,[.t 30,.t 32,.c (.bool false)]⟩,⟨some 40,none,.qcall 48,[.t 39,.c (.int .i64 0),.c (.int .i64 2)]⟩,p 44 (.build [(.int .u32 0),(.int .i64 0),(.int .i64 0),(.int .i64 0),(.int .u32 0),(.bool false),(.bool false),(.int .u32 0),(.bool false),(.int .u32 0),(.int .i64 0),(.int .u32 0)] [(0,2),(2,1),(3,1),(5,1),(6,1),(8,1),(10,1),(11,1)]) [.t 27,.c (.int .i64 0),.c (.int .i64 32),.t 33,.t 35,.t 37,.t 40,.t 43],⟨some 6,none,.alloc (.alloc [(.int .u32 0),(.int .i64 0),(.int .i64 0),(.int .i64 0),(.int .u32 0),(.bool false),(.bool false),(.int .u32 0),(.bool false),(.int .u32 0),(.int .i64 0),(.int .u32 0)]),[]⟩,s 12 6 44] [0,3,4,5,6] t23_45))) (.ops [m 15 4,c 16 .add 15 1,m 4 16] [0,3,4])))))) (z [m 77 3,m 2 77] [2] .ret)))
def F23:Fn Try.prog 23:=Fn.mkX false b23 [.t 2] 78 Try.f23 _ Try.func23 (by decide) rfl Try.ntmps23 (by kernel_rfl) (by kernel_rfl)
end Go.Am.Ts17
namespace Go.Am
open Go.Proofs Go.Sort
def ruleA (r:Rule) (z:Bool):Rule:=⟨(prefixF r.ad r.ln).1,(prefixF r.ad r.ln).2,0,32,0,r.rj && z,r.sp,0,r.sm,0,r.pp % 3,Int.tmod r.ac 4⟩
def ruleB (r x:Rule):Rule:=if Int.tmod r.fr 2=0 then { x with fr:=9,tl:=12 } else x
def ruleC (r x:Rule):Rule:=if r.sp then { x with pf:=IntKind.u32.wrap (90+Int.tmod r.pf 30) } else x
def ruleD (r x:Rule):Rule:=if r.sm then { x with md:=Int.tmod r.md 4 } else x
def ruleE (r x:Rule):Rule:=if Int.tmod r.cm 3=1 then { x with cm:=IntKind.u32.wrap (1+Int.tmod r.cm 4) } else x
def ruleK (r:Rule) (z:Bool):Rule:=ruleE r (ruleD r (ruleC r (ruleB r (ruleA r z))))
section
variable {r x:Rule} {σ:Store} {n rr:Env→Store→Prop} {xx:Nat→Env→Store→Prop} {v0 v:AV} {i:Int} {L:List (List AV)} {p5 p6:Nat}
theorem z2n {T:Store} (T6:T p6=some (.box x.c)) (ho:Own 12 σ L v T) (hs:Store.sub σ T) (hL:L.length≤10) (E E':List (Nat×AV)) (e5:List (Nat×AV)) (he:e5=[]∨e5=[(5,.ptr p5 0)])
 (hn:∀ v' T',Store.sub σ T'→Own 12 σ (L++[x.c]) v' T'→n [(0,v0),(3,v'),(4,.int .i64 i)] T'):bwp Try.prog Ts17.t23_73 ((0,v0)::(3,v)::(4,.int .i64 i)::(e5++(6,.ptr p6 0)::E)) T n rr xx:=by
 simp only [Ts17.t23_73]
 have e12:x.c.length=12:=rfl
 have t12:List.take 12 x.c=x.c:=rfl
 rcases he with rfl | rfl
 all_goals
  simp only [List.nil_append,List.cons_append]
  simp only [T6,e12,t12,↓vcPre,↓z0,↓reduceIte,vcPost,vcStd,Nat.reduceEqDiff,reduceCtorEq,Nat.reduceAdd,Nat.reduceLeDiff,Int.reduceLT,Int.reduceLE,↓u_setN]
  refine AllocQ.i0 fun d hd => ?_
  simp only [↓vcPre,↓z0,↓reduceIte,vcPost,vcStd,Nat.reduceEqDiff,reduceCtorEq,Nat.reduceAdd,Nat.reduceLeDiff,Int.reduceLT,Int.reduceLE,↓u_setN]
  have sd:=Store.sub_set T d (.arr 12 [x.c]) hd
  refine Own.appP (bytes:=72) (τ:=σ) (ys:=[x.c]) (Store.sub_trans hs sd) (ho.mono sd) (zw (Store.set_same _ _ _) rfl) (by simp;omega) fun v' s' hs' ho' hk' => ?_
  exact hn v' s' hs' ho'
variable {r:Rule}
theorem z2m {T:Store} (h56:¬ p5=p6) (T5:T p5=some (.box r.c)) (T6:T p6=some (.box x.c)) (ho:Own 12 σ L v T) (hs:Store.sub σ T) (h6:σ p6=none) (hL:L.length≤10) (E:List (Nat×AV))
 (hn:∀ v' T',Store.sub σ T'→Own 12 σ (L++[(ruleE r x).c]) v' T'→n [(0,v0),(3,v'),(4,.int .i64 i)] T'):bwp Try.prog Ts17.t23_64 ((0,v0)::(3,v)::(4,.int .i64 i)::(5,.ptr p5 0)::(6,.ptr p6 0)::E) T n rr xx:=by
 simp only [Ts17.t23_64]
 have e12:∀ y:Rule,y.c.length=12:=fun _=>rfl
 have r4:List.take 1 (List.drop 4 r.c)=[.int .u32 r.cm]:=rfl
 have s4:∀ y:Int,splice 4 [.int .u32 y] x.c=some ({ x with cm:=y }:Rule).c:=fun _=>rfl
 unfold ruleE at hn
 simp only [T5,r4,e12,↓vcPre,↓z0,↓reduceIte,vcPost,vcStd,Nat.reduceEqDiff,reduceCtorEq,Nat.reduceAdd,Nat.reduceLeDiff,Int.reduceLT,Int.reduceLE,↓u_setN]
 refine ⟨by decide,fun g => ?_,fun g => ?_⟩
 ·rw [if_pos g] at hn
  simp only [T5,T6,r4,e12,s4,↓vcPre,↓z0,↓reduceIte,vcPost,vcStd,Nat.reduceEqDiff,reduceCtorEq,Nat.reduceAdd,Nat.reduceLeDiff,Int.reduceLT,Int.reduceLE,↓u_setN]
  refine ⟨by decide,?_⟩
  exact z2n (p5:=p5) (Store.set_same _ _ _) (ho.setId T6 (fun M e=>by cases e)) (zb hs h6) hL [] [] [] (.inl rfl) hn
 ·rw [if_neg g] at hn
  exact z2n (p5:=p5) T6 ho hs hL _ [] [(5,.ptr p5 0)] (.inr rfl) hn
theorem z2l {T:Store} (h56:¬ p5=p6) (T5:T p5=some (.box r.c)) (T6:T p6=some (.box x.c)) (ho:Own 12 σ L v T) (hs:Store.sub σ T) (h6:σ p6=none) (hL:L.length≤10) (E:List (Nat×AV))
 (hn:∀ v' T',Store.sub σ T'→Own 12 σ (L++[(ruleE r (ruleD r x)).c]) v' T'→n [(0,v0),(3,v'),(4,.int .i64 i)] T'):bwp Try.prog Ts17.t23_58 ((0,v0)::(3,v)::(4,.int .i64 i)::(5,.ptr p5 0)::(6,.ptr p6 0)::E) T n rr xx:=by
 simp only [Ts17.t23_58]
 have e12:∀ y:Rule,y.c.length=12:=fun _=>rfl
 have r8:List.take 1 (List.drop 8 r.c)=[.bool r.sm]:=rfl
 have r9:List.take 1 (List.drop 9 r.c)=[.int .u32 r.md]:=rfl
 have s9:∀ y:Int,splice 9 [.int .u32 y] x.c=some ({ x with md:=y }:Rule).c:=fun _=>rfl
 unfold ruleD at hn
 simp only [T5,r8,e12,↓vcPre,↓z0,↓reduceIte,vcPost,vcStd,Nat.reduceEqDiff,reduceCtorEq,Nat.reduceAdd,Nat.reduceLeDiff,Int.reduceLT,Int.reduceLE,↓u_setN]
 cases h:r.sm
 ·rw [h] at hn
  simp only [Bool.false_eq_true,if_false] at hn
  simp only [↓vcPre,↓z0,↓reduceIte,vcPost,vcStd,Nat.reduceEqDiff,reduceCtorEq,Nat.reduceAdd,Nat.reduceLeDiff,Int.reduceLT,Int.reduceLE,↓u_setN]
  exact z2m h56 T5 T6 ho hs h6 hL _ hn
 ·rw [h] at hn
  simp only [if_true] at hn
  simp only [T5,T6,r9,e12,s9,↓vcPre,↓z0,↓reduceIte,vcPost,vcStd,Nat.reduceEqDiff,reduceCtorEq,Nat.reduceAdd,Nat.reduceLeDiff,Int.reduceLT,Int.reduceLE,↓u_setN]
  refine ⟨by decide,?_⟩
  exact z2m h56 ((Store.set_ne _ _ h56).trans T5) (Store.set_same _ _ _) (ho.setId T6 (fun M e=>by cases e)) (zb hs h6) h6 hL [] hn
theorem z2k {T:Store} (h56:¬ p5=p6) (T5:T p5=some (.box r.c)) (T6:T p6=some (.box x.c)) (ho:Own 12 σ L v T) (hs:Store.sub σ T) (h6:σ p6=none) (hL:L.length≤10) (E:List (Nat×AV))
 (hn:∀ v' T',Store.sub σ T'→Own 12 σ (L++[(ruleE r (ruleD r (ruleC r x))).c]) v' T'→n [(0,v0),(3,v'),(4,.int .i64 i)] T'):bwp Try.prog Ts17.t23_51 ((0,v0)::(3,v)::(4,.int .i64 i)::(5,.ptr p5 0)::(6,.ptr p6 0)::E) T n rr xx:=by
 simp only [Ts17.t23_51]
 have e12:∀ y:Rule,y.c.length=12:=fun _=>rfl
 have r6:List.take 1 (List.drop 6 r.c)=[.bool r.sp]:=rfl
 have r7:List.take 1 (List.drop 7 r.c)=[.int .u32 r.pf]:=rfl
 have s7:∀ y:Int,splice 7 [.int .u32 y] x.c=some ({ x with pf:=y }:Rule).c:=fun _=>rfl
 unfold ruleC at hn
 simp only [T5,r6,e12,↓vcPre,↓z0,↓reduceIte,vcPost,vcStd,Nat.reduceEqDiff,reduceCtorEq,Nat.reduceAdd,Nat.reduceLeDiff,Int.reduceLT,Int.reduceLE,↓u_setN]
 cases h:r.sp
 ·rw [h] at hn
  simp only [Bool.false_eq_true,if_false] at hn
  simp only [↓vcPre,↓z0,↓reduceIte,vcPost,vcStd,Nat.reduceEqDiff,reduceCtorEq,Nat.reduceAdd,Nat.reduceLeDiff,Int.reduceLT,Int.reduceLE,↓u_setN]
  exact z2l h56 T5 T6 ho hs h6 hL _ hn
 ·rw [h] at hn
  simp only [if_true] at hn
  simp only [T5,T6,r7,e12,s7,↓vcPre,↓z0,↓reduceIte,vcPost,vcStd,Nat.reduceEqDiff,reduceCtorEq,Nat.reduceAdd,Nat.reduceLeDiff,Int.reduceLT,Int.reduceLE,↓u_setN]
  refine ⟨by decide,?_⟩
  exact z2l h56 ((Store.set_ne _ _ h56).trans T5) (Store.set_same _ _ _) (ho.setId T6 (fun M e=>by cases e)) (zb hs h6) h6 hL [] hn
theorem z7b {T:Store} (h56:¬ p5=p6) (T5:T p5=some (.box r.c)) (T6:T p6=some (.box x.c)) (ho:Own 12 σ L v T) (hs:Store.sub σ T) (h6:σ p6=none) (hL:L.length≤10) (E:List (Nat×AV))
 (hn:∀ v' T',Store.sub σ T'→Own 12 σ (L++[(ruleE r (ruleD r (ruleC r (ruleB r x)))).c]) v' T'→n [(0,v0),(3,v'),(4,.int .i64 i)] T'):bwp Try.prog Ts17.t23_45 ((0,v0)::(3,v)::(4,.int .i64 i)::(5,.ptr p5 0)::(6,.ptr p6 0)::E) T n rr xx:=by
 simp only [Ts17.t23_45]
 have e12:∀ y:Rule,y.c.length=12:=fun _=>rfl
 have r2:List.take 1 (List.drop 2 r.c)=[.int .i64 r.fr]:=rfl
 have s2:splice 2 [.int .i64 9] x.c=some ({ x with fr:=9 }:Rule).c:=rfl
 have s3:splice 3 [.int .i64 12] ({ x with fr:=9 }:Rule).c=some ({ x with fr:=9,tl:=12 }:Rule).c:=rfl
 unfold ruleB at hn
 simp only [T5,r2,e12,↓vcPre,↓z0,↓reduceIte,vcPost,vcStd,Nat.reduceEqDiff,reduceCtorEq,Nat.reduceAdd,Nat.reduceLeDiff,Int.reduceLT,Int.reduceLE,↓u_setN]
 refine ⟨by decide,fun g => ?_,fun g => ?_⟩
 ·rw [if_pos g] at hn
  simp only [T6,e12,s2,↓vcPre,↓z0,↓reduceIte,vcPost,vcStd,Nat.reduceEqDiff,reduceCtorEq,Nat.reduceAdd,Nat.reduceLeDiff,Int.reduceLT,Int.reduceLE,↓u_setN]
  simp only [Store.set_same,e12,s3,↓vcPre,↓z0,↓reduceIte,vcPost,vcStd,Nat.reduceEqDiff,reduceCtorEq,Nat.reduceAdd,Nat.reduceLeDiff,Int.reduceLT,Int.reduceLE,↓u_setN]
  exact z2k h56 (((Store.set_ne _ _ h56).trans (Store.set_ne _ _ h56)).trans T5) (Store.set_same _ _ _) ((ho.setId T6 (fun M e=>by cases e)).setId (Store.set_same _ _ _) (fun M e=>by cases e)) (zb (zb hs h6) h6) h6 hL [] hn
 ·rw [if_neg g] at hn
  exact z2k h56 T5 T6 ho hs h6 hL _ hn
end
def rulesK (rs:List Rule):List Rule:=(rs.take 3).mapIdx fun i r=>ruleK r (decide (i=0))
def Rule.ok (r:Rule):Prop:=I64 r.ln∧I64 r.pp
theorem z30 (rs:List Rule) (f:Nat→Rule→Rule) (k:Nat) (h:k<rs.length):(rs.take (k+1)).mapIdx f=(rs.take k).mapIdx f++[f k rs[k]]:=by
 rw [List.take_succ_eq_append_getElem h,List.mapIdx_append]
 simp [Nat.min_eq_left (Nat.le_of_lt h)]
end Go.Am
namespace Go.Am.Ts18
open Go.Proofs Go.Am.B
def t51_19:BC:=z [f 19 1 5,l 20 1 19,m 21 1,f 22 10 3,l 23 1 22,g 24 67 [.t 20,.t 21,.t 23],f 25 1 5,s 1 25 24] [3,5,6] (z [⟨some 26,none,.load (.ld 9 true),[.t 5]⟩,g 27 43 [.t 26],s 9 5 27] [3,5,6] (.seq (z [f 28 11 3,l 29 1 28,p 30 (.bin .neq) [.t 29,.c (.int .u32 0)],m 31 30,⟨some 32,some (31,true),.pure (.fld 8),[.t 5]⟩,⟨some 33,some (31,true),.load (.ld 1 false),[.t 32]⟩,⟨some 34,some (31,true),.pure (.len),[.t 33]⟩,⟨some 35,some (31,true),.pure (.bin .lss),[.t 34,.c (.int .i64 32)]⟩,⟨some 36,none,.pick,[.t 31,.t 35,.c (.bool false)]⟩] [3,5,6,36] (.cond (.t 36) (.ops [f 37 8 5,l 38 1 37,f 39 11 3,l 40 1 39,⟨some 41,none,.alloc (.mksl 1 1),[.t 40]⟩,⟨some 42,none,.loud (.app 1 4),[.t 38,.t 41]⟩,f 43 8 5,s 1 43 42] [5,6]) .skip)) (z [⟨some 44,none,.load (.ld 9 true),[.t 5]⟩,g 45 43 [.t 44],s 9 6 45] [6] .ret)))
def t51_13:BC := .seq (z [f 13 8 3,l 14 1 13] [1,3,5,6,14] (.cond (.t 14) (z [f 15 9 3] [1,3,5,6,15] (z [f 17 3 5] [1,3,5,6,15,17] (.both (z [l 16 1 15] [1,3,5,6,16,17] (z [⟨none,none,.loud (.st 1),[.t 17,.c (.bool true)]⟩] [1,3,5,6,16] (z [f 18 4 5] [1,3,5,6,16,18] (z [s 1 18 16] [1,3,5,6] (.ops [] [1,3,5,6]))))) (.both (z [⟨none,none,.loud (.st 1),[.t 17,.c (.bool true)]⟩] [1,3,5,6,15] (z [l 16 1 15] [1,3,5,6,16] (z [f 18 4 5] [1,3,5,6,16,18] (z [s 1 18 16] [1,3,5,6] (.ops [] [1,3,5,6]))))) (.top))))) .skip)) t51_19
def b51:BC:=z [⟨some 3,none,.alloc (.box),[.t 0]⟩,⟨some 5,none,.alloc (.box),[.t 2]⟩,⟨some 6,none,.alloc (.alloc [(.int .i64 0),.nils,(.int .u32 0),(.bool false),(.int .u32 0),(.bool false),(.int .u32 0),(.bool false),.nils]),[]⟩] [1,3,5,6] (.seq (z [f 7 6 3,l 8 1 7] [1,3,5,6,8] (.cond (.t 8) (z [f 9 7 3] [1,3,5,6,9] (z [f 11 5 5] [1,3,5,6,9,11] (.both (z [l 10 1 9] [1,3,5,6,10,11] (z [⟨none,none,.loud (.st 1),[.t 11,.c (.bool true)]⟩] [1,3,5,6,10] (z [f 12 6 5] [1,3,5,6,10,12] (z [s 1 12 10] [1,3,5,6] (.ops [] [1,3,5,6]))))) (.both (z [⟨none,none,.loud (.st 1),[.t 11,.c (.bool true)]⟩] [1,3,5,6,9] (z [l 10 1 9] [1,3,5,6,10] (z [f 12 6 5] [1,3,5,6,10,12] (z [s 1 12 10] [1,3,5,6] (.ops [] [1,3,5,6]))))) (.top))))) .skip)) t51_13)
def F51:Fn Try.prog 51:=Fn.mkX false b51 [.c 6 9 true] 46 Try.f51 _ Try.func51 (by decide) rfl Try.ntmps51 (by kernel_rfl) (by kernel_rfl)
end Go.Am.Ts18
namespace Go.Am
open Go.Proofs Go.Sort
section
variable {r:Rule} {σ:Store} {n rr:Env→Store→Prop} {xx:Nat→Env→Store→Prop} {p3 p5 p6:Nat} {as1:Int}
def medA (r:Rule) (b:At):At:=if r.sm then { b with hm:=true,med:=r.md } else b
def prfA (r:Rule) (b:At):At:=if r.sp then { b with hp:=true,prf:=r.pf } else b
end
end Go.Am
namespace Go.Am
open Go.Proofs Go.Sort
theorem z5a (x:Int):bitInt .and .u32 x (maskF 0)=0:=by
 have h:BitVec.ofInt 32 (maskF 0)=0:=by decide+kernel
 have e:bitInt .and .u32 x (maskF 0)=IntKind.u32.wrap ((BitVec.ofInt 32 x &&& (BitVec.ofInt 32 (maskF 0))).toNat:Int):=rfl
 rw [e,h,show (BitVec.ofInt 32 x &&& 0)=0 by simp]
 decide
theorem z4s (r:Rule) (q:Int×Int) (a:At) (h1:r.ad=0) (h2:r.ln=0) (h3:r.fr=0) (h4:r.tl=32) (h5:r.cm=0) (hq:rightF q.1 q.2=true):matchF r q a=true:=by
 have hq':=hq
 unfold rightF at hq'
 simp only [Bool.and_eq_true,decide_eq_true_eq] at hq'
 have h0:rightF 0 0=true:=by decide+kernel
 unfold matchF coversF hasF
 rw [h1,h2,h3,h4,h5,hq]
 simp only [h0,z5a]
 simp [hq'.1.1,hq'.1.2]
end Go.Am
namespace Go.Am
open Go.Proofs Go.Sort
theorem z2t (x:BitVec 32):IntKind.u32.wrap (x.toNat:Int)=(x.toNat:Int):=by
 have:=x.isLt
 show ((x.toNat:Int) % 4294967296)=_
 omega
theorem z0e (a n:Int):rightF (ofF a n).1 (ofF a n).2=true:=by
 simp only [ofF,z1z]
 have hand:bitInt .and .u32 a (maskF n)=IntKind.u32.wrap ((BitVec.ofInt 32 a &&& (BitVec.ofInt 32 (maskF n))).toNat:Int):=rfl
 rw [z2t] at hand
 unfold rightF
 simp only [Bool.and_eq_true,decide_eq_true_eq]
 refine ⟨by omega,?_⟩
 rw [z1z,show ∀ a n:Int,bitInt .andNot .u32 a (maskF n)=IntKind.u32.wrap ((BitVec.ofInt 32 a &&& ~~~(BitVec.ofInt 32 (maskF n))).toNat:Int) from fun _ _=>rfl,hand,show ∀ x:BitVec 32,BitVec.ofInt 32 (x.toNat:Int)=x from fun x=>by simp,z2t]
 have:(BitVec.ofInt 32 a &&& BitVec.ofInt 32 (maskF n)) &&& ~~~(BitVec.ofInt 32 (maskF n))=0#32:=by
  rw [BitVec.and_assoc,BitVec.and_not_self]
  simp
 rw [this];rfl
end Go.Am
namespace Go.Am
open Go.Proofs
theorem zcd (xs:List AV) (h:TOk Try.prog 3 57 xs):∃ r:Rule,ImpL xs r.c∧r.ok:=by
 obtain ⟨a1,b1,rfl,h1,a2,b2,rfl,h2,a3,b3,rfl,h3,a4,b4,rfl,h4,a5,b5,rfl,h5,a6,b6,rfl,h6,a7,b7,rfl,h7,a8,b8,rfl,h8,a9,b9,rfl,h9,a10,b10,rfl,h10,a11,b11,rfl,h11,rfl⟩:=TOk.struct (ts:=[51,3,3,30,4,4,30,4,30,3,30]) Try.underlying57 rfl h
 obtain ⟨p1,q1,rfl,g1,p2,q2,rfl,g2,rfl⟩:=TOk.struct (ts:=[30,3]) Try.underlying51 rfl h1
 obtain ⟨m1,rfl,_,_⟩:=TOk.int Try.underlying30 g1
 obtain ⟨m2,rfl,l1,l2⟩:=TOk.int Try.underlying3 g2
 obtain ⟨m3,rfl,_,_⟩:=TOk.int Try.underlying3 h2
 obtain ⟨m4,rfl,_,_⟩:=TOk.int Try.underlying3 h3
 obtain ⟨m5,rfl,_,_⟩:=TOk.int Try.underlying30 h4
 obtain ⟨m6,rfl⟩:=TOk.bool Try.underlying4 h5
 obtain ⟨m7,rfl⟩:=TOk.bool Try.underlying4 h6
 obtain ⟨m8,rfl,_,_⟩:=TOk.int Try.underlying30 h7
 obtain ⟨m9,rfl⟩:=TOk.bool Try.underlying4 h8
 obtain ⟨m10,rfl,_,_⟩:=TOk.int Try.underlying30 h9
 obtain ⟨m11,rfl,k1,k2⟩:=TOk.int Try.underlying3 h10
 obtain ⟨m12,rfl,_,_⟩:=TOk.int Try.underlying30 h11
 exact ⟨⟨m1,m2,m3,m4,m5,m6,m7,m8,m9,m10,m11,m12⟩,((ImpL.one rfl).append ((ImpL.one rfl).append .nil)).append ((ImpL.one rfl).append ((ImpL.one rfl).append ((ImpL.one rfl).append ((ImpL.one rfl).append ((ImpL.one rfl).append ((ImpL.one rfl).append ((ImpL.one rfl).append ((ImpL.one rfl).append ((ImpL.one rfl).append ((ImpL.one rfl).append .nil)))))))))),⟨l1,l2⟩,⟨k1,k2⟩⟩
end Go.Am
namespace Go.Am
def lay (cur:Array Value) (o:Nat) (vs:List Value):Array Value:=(cur.toList.take o++vs++cur.toList.drop (o+vs.length)).toArray
theorem y5 {P:Program} (w:World) {dT sT ty elem:TypeId} {sz:Nat} (g o dLen dCap:Nat) (a:Addr) (sLen sCap k:Nat) (cur:Array Value) (t:TypeId) (cs:List Value)
 (hu:P.underlying dT=some (.slice elem)) (hs:tsz P elem=some sz) (hg:w.heap[g]? = some (.cells cur t (0,0))) (hk:k=Nat.min sLen dLen) (hn:cs.length=k*sz)
 (hsrc:∀ j v,cs[j]? = some v→w.cell? (a.add j)=some v) (hfit:o+cs.length≤cur.size) (h1:∀ v ∈ cs,v.oneCell'=true) :
 (Builtin.copy_ #[dT,sT] ty #[.slice (some ⟨g,o,none⟩) dLen dCap,.slice (some a) sLen sCap]).run P w = .ok (goInt k) (w.setRow g (lay cur o cs)):=by
 have hl:=run_loadCells_list (P:=P) w a cs hsrc
 have hst:=run_storeCells_at P g o t cs 0 cur w hg (by simpa using hfit) h1
 unfold Builtin.copy_
 simp [zg hu,uv,Builtin.firstCells,zy hs,←hk,←hn,hl,hst,lay]
theorem ue (w:World) (row A B:Array Value) (e:TypeId):(((w.alloc (.cells row e (0,0))).drew.setRow w.heap.size A).drew.setRow w.heap.size B).heap=w.heap.push (.cells B e (0,0)):=by
 have h1:(w.alloc (.cells row e (0,0))).drew.heap[w.heap.size]? = some (.cells row e (0,0)):=yp _
 have h2:(((w.alloc (.cells row e (0,0))).drew.setRow w.heap.size A).drew).heap[w.heap.size]? = some (.cells A e (0,0)):=zu h1
 refine Array.ext_getElem? fun k => ?_
 by_cases hk:k=w.heap.size
 ·subst hk
  rw [zu h2]
  simp
 ·rw [y6 _ hk]
  show ((w.alloc (.cells row e (0,0))).drew.setRow w.heap.size A).heap[k]? = _
  rw [y6 _ hk]
  show (w.heap.push _)[k]? = _
  rw [Array.getElem?_push,Array.getElem?_push,if_neg hk,if_neg hk]
structure InsHolds (P:Program) (F:Nat) (tS e:TypeId) (esz bytes:Nat) (z:List AV):Prop where
 ent:Ent P F
 und:P.underlying tS=some (.slice e)
 sz:tsz P e=some esz
 zero:tzero P e=some z
 zl:z.length=esz
 inf:∃ i,P.info? e=some i∧i.bytes=bytes∧1≤i.bytes
 onto:∀ (base:Option Addr) (c:Nat) (xb:Addr) (xc:Nat) (w:World) (v':Value) (w':World),(Builtin.append_ #[tS,tS] tS #[.slice base 0 c,.slice (some xb) 1 xc]).run P w = .ok v' w' →
  Calls P F #[.slice base 0 c,.int .i64 0,.slice (some xb) 1 xc] w fun r w2=>r = .returned v'∧w2=w'
 shift:∀ (b o n c vb vo vc:Nat) (cur vcur:Array Value) (t vt:TypeId) (vs cs:List Value) (w:World),0<n→n≤140737488355328→n+1≤c→w.heap[b]? = some (.cells cur t (0,0))→w.heap[vb]? = some (.cells vcur vt (0,0))→vb≠b →
  vs.length=esz→cs.length=n*esz→(∀ j v,vs[j]? = some v→w.cell? ⟨vb,vo+j,none⟩=some v)→(∀ j v,cs[j]? = some v→w.cell? ⟨b,o+j,none⟩=some v)→o+(n+1)*esz≤cur.size →
  (∀ v ∈ vs,v.oneCell'=true)→(∀ v ∈ cs,v.oneCell'=true) →
  Calls P F #[.slice (some ⟨b,o,none⟩) n c,.int .i64 0,.slice (some ⟨vb,vo,none⟩) 1 vc] w fun r w2=>r = .returned (.slice (some ⟨b,o,none⟩) (n+1) c)∧w2.tape=w.tape∧w2.os=w.os∧w2.output=w.output∧w.drawn≤w2.drawn ∧
   w2.heap=(w.setRow b (lay (lay cur (o+esz) cs) o vs)).heap
 grow:∀ (b o n vb vo vc:Nat) (cur vcur:Array Value) (t vt:TypeId) (vs cs:List Value) (w:World),0<n→(n+1)*bytes≤140737488355328→w.heap[b]? = some (.cells cur t (0,0))→w.heap[vb]? = some (.cells vcur vt (0,0)) →
  vs.length=esz→cs.length=n*esz→(∀ j v,vs[j]? = some v→w.cell? ⟨vb,vo+j,none⟩=some v)→(∀ j v,cs[j]? = some v→w.cell? ⟨b,o+j,none⟩=some v) →
  (∀ v ∈ vs,v.oneCell'=true)→(∀ v ∈ cs,v.oneCell'=true) →
  Calls P F #[.slice (some ⟨b,o,none⟩) n n,.int .i64 0,.slice (some ⟨vb,vo,none⟩) 1 vc] w fun r w2=>∃ (cap:Nat) (row:Array Value),n+1≤cap∧row.size=cap*esz∧r = .returned (.slice (some ⟨w.heap.size,0,none⟩) (n+1) cap) ∧
   w2.tape=w.tape∧w2.os=w.os∧w2.output=w.output∧w2.heap=w.heap.push (.cells (lay (lay row 0 vs) esz cs) e (0,0))
section
variable {P:Program} {w:World} {G:Gh} {σ:Store}
theorem ERel.one {esz:Nat} {es:List (List AV)} {f:Nat→Value} (h:ERel G w esz es f):∀ v ∈ (List.range (es.length*esz)).map f,v.oneCell'=true:=by
 intro v hv
 obtain ⟨k,hk,rfl⟩:=List.mem_map.1 hv
 have hk':k<es.length*esz:=by simpa using hk
 have hpos:0<esz:=by
  rcases Nat.eq_zero_or_pos esz with h | h
  ·subst h;simp at hk'
  ·exact h
 obtain ⟨f1,f2,f3⟩:=h
 have hi':k / esz<es.length:=by rw [Nat.div_lt_iff_lt_mul hpos];exact hk'
 have hj':k % esz<(es[k / esz]).length:=by rw [f1 _ (List.getElem_mem hi')];exact Nat.mod_lt _ hpos
 have:=f3 (k / esz) (k % esz) hi' hj'
 rw [Nat.div_add_mod'] at this
 exact this.oneCell (f2 _ (List.getElem_mem hi') _ (List.getElem_mem hj'))
theorem z17 {b base n:Nat} {cur:Array Value} {t:TypeId} (hh:w.heap[b]? = some (.cells cur t (0,0))) (hs:base+n≤cur.size) :
 ∀ j v,((List.range n).map fun k=>cur.getD (base+k) undef)[j]? = some v→w.cell? ⟨b,base+j,none⟩=some v:=by
 intro j v hj
 have hjn:j<n:=by
  have:=(List.getElem?_eq_some_iff.1 hj).1
  simpa using this
 rw [x4 hh,←hj,List.getElem?_map,List.getElem?_range hjn,Array.getElem?_eq_getElem (by omega)]
 simp [Array.getD_eq_getD_getElem?,Array.getElem?_eq_getElem (show base+j<cur.size by omega)]
theorem xq {cur:Array Value} {vs:List Value} {o:Nat} (h:o+vs.length≤cur.size) (k:Nat) :
 (lay cur o vs).getD k undef=if o≤k∧k<o+vs.length then vs.getD (k - o) undef else cur.getD k undef:=xg h k
theorem w6 {cur:Array Value} {vs:List Value} {o:Nat} (h:o+vs.length≤cur.size):(lay cur o vs).size=cur.size:=y8 h
theorem we {n k:Nat} {f:Nat→Value} (h:k<n):((List.range n).map f).getD k undef=f k:=by
 simp [List.getD_eq_getElem?_getD,List.getElem?_map,List.getElem?_range h]
theorem z3l {G':Gh} {w':World} {esz o:Nat} {x:List AV} {L:List (List AV)} {fv fc:Nat→Value} {cur:Array Value} (hv:ERel G' w' esz [x] fv) (hc:ERel G' w' esz L fc) (hs:o+(L.length+1)*esz≤cur.size)
 (A:Array Value) (hA:A=lay (lay cur (o+esz) ((List.range (L.length*esz)).map fc)) o ((List.range esz).map fv)∨A=lay (lay cur o ((List.range esz).map fv)) (o+esz) ((List.range (L.length*esz)).map fc)) :
 A.size=cur.size∧ERel G' w' esz (x::L) (fun k=>A.getD (o+k) undef):=by
 have hm:(L.length+1)*esz=L.length*esz+esz:=Nat.succ_mul _ _
 have l1:((List.range (L.length*esz)).map fc).length=L.length*esz:=by simp
 have l2:((List.range esz).map fv).length=esz:=by simp
 have l3:([x]:List (List AV)).length*esz=esz:=by simp
 rcases hA with rfl | rfl
 ·have s1:(lay cur (o+esz) ((List.range (L.length*esz)).map fc)).size=cur.size:=w6 (by rw [l1];omega)
  have hB:o+((List.range esz).map fv).length≤(lay cur (o+esz) ((List.range (L.length*esz)).map fc)).size:=by rw [s1,l2];omega
  refine ⟨(w6 hB).trans s1,?_⟩
  refine ERel.append (xs:=[x]) hv hc (fun k hk => ?_) (fun k hk => ?_)
  ·rw [l3] at hk
   show (lay _ o _).getD (o+k) undef=_
   rw [xq hB,l2,if_pos (by omega),Nat.add_sub_cancel_left,we hk]
  ·rw [l3]
   show (lay _ o _).getD (o+(esz+k)) undef=_
   rw [xq hB,l2,if_neg (by omega),xq (by rw [l1];omega),l1,if_pos (by omega),show o+(esz+k) - (o+esz)=k by omega,we hk]
 ·have s1:(lay cur o ((List.range esz).map fv)).size=cur.size:=w6 (by rw [l2];omega)
  have hB:o+esz+((List.range (L.length*esz)).map fc).length≤(lay cur o ((List.range esz).map fv)).size:=by rw [s1,l1];omega
  refine ⟨(w6 hB).trans s1,?_⟩
  refine ERel.append (xs:=[x]) hv hc (fun k hk => ?_) (fun k hk => ?_)
  ·rw [l3] at hk
   show (lay _ (o+esz) _).getD (o+k) undef=_
   rw [xq hB,l1,if_neg (by omega),xq (by rw [l2];omega),l2,if_pos (by omega),Nat.add_sub_cancel_left,we hk]
  ·rw [l3]
   show (lay _ (o+esz) _).getD (o+(esz+k)) undef=_
   rw [xq hB,l1,if_pos (by omega),show o+(esz+k) - (o+esz)=k by omega,we hk]
theorem wq {F:Nat} {tS e:TypeId} {esz bytes:Nat} {z:List AV} (H:InsHolds P F tS e esz bytes z) {s:AV} {L:List (List AV)} {x:List AV} {h:Nat} {Q:AV→Store→Prop}
 (hh:σ h=some (.arr esz [x])) (hS:(s = .nils∧L=[])∨∃ g,s = .os g esz 0 L.length∧σ g=some (.arr esz L)∧g≠h) (hsz:(L.length+1)*bytes≤140737488355328)
 (hQ1:∀ id,σ id=none→Q (.os id esz 0 (L.length+1)) (σ.set id (.arr esz (x::L)))) (hQ2:∀ g,s = .os g esz 0 L.length→Q (.os g esz 0 (L.length+1)) (σ.set g (.arr esz (x::L)))) :
 ACalls P F [s,.int .i64 0,.os h esz 0 1] σ Q:=by
 obtain ⟨i,hi,hib,hi1⟩:=H.inf
 refine ⟨H.ent,fun G w vs hs hvs => ?_⟩
 cases hvs with
 | cons hvS hvs =>
 cases hvs with
 | cons hv0 hvs =>
 cases hvs with
 | cons hvV hvs =>
 cases hvs
 obtain rfl:=hv0.of_int
 have hyV:=hvV
 rename_i vS0 vV
 have hslh:slc σ esz (.os h esz 0 1)=some [x]:=by simp [slc,hh]
 have empty:L=[]→∀ (vS:Value),VRel G w s vS→(∃ base c,vS = .slice base 0 c)→Calls P F [vS,.int .i64 0,vV].toArray w (fun e w'=>∃ v a G' σ',e = .returned v∧Ext G σ w G' σ' w'∧Sim G' σ' w'∧VRel G' w' a v∧Q a σ'):=by
  intro hL vS hr ⟨base,c,hvs⟩
  subst hvs
  have hK:appwp esz i.bytes s (.os h esz 0 1) σ Q:=by
   unfold appwp
   subst hL
   rcases hS with ⟨rfl,_⟩ | ⟨g,rfl,hg,_⟩
   ·rw [hslh]
    refine ⟨by simp at hsz ⊢;omega,?_⟩
    exact ⟨fun h0=>(by cases h0),fun _ id hid=>hQ1 id hid⟩
   ·rw [hslh,show slc σ esz (.os g esz 0 ([]:List (List AV)).length)=some [] by simp [slc,hg]]
    refine ⟨by simp at hsz ⊢;omega,?_⟩
    exact .inr ⟨hg,hQ2 g rfl,fun id hid=>hQ1 id hid⟩
  obtain ⟨v,w',G',σ',av,r1,r2,r3,r4,r5⟩:=z4u (ty:=tS) hs H.und H.sz H.und (fun k=>by simp) hi hi1 H.zero H.zl hr hyV hK
  obtain ⟨b,base',hb,⟨c',rfl,_⟩ | ⟨h0,_⟩⟩:=hyV.of_os
  ·exact (H.onto base c _ c' w v w' r1).mono fun r w2 ⟨e1,e2⟩=>⟨v,av,G',σ',e1,by rw [e2];exact r2,by rw [e2];exact r3,by rw [e2];exact r4,r5⟩
  ·cases h0
 rcases hS with ⟨rfl,hL⟩ | ⟨g,rfl,hg,hne⟩
 ·exact empty hL _ hvS ⟨none,0,hvS.of_nils⟩
 ·by_cases hL:L=[]
  ·refine empty hL _ hvS ?_
   subst hL
   obtain ⟨b,base,hb,⟨c,rfl,_⟩ | ⟨h0,x0,rfl⟩⟩:=hvS.of_os
   ·exact ⟨_,_,rfl⟩
   ·exact ⟨_,_,rfl⟩
  ·have hn:0<L.length:=List.length_pos_iff.2 hL
   obtain ⟨b,base,hbρ,⟨c,rfl,hlen,ty',N,hsh,hcap⟩ | ⟨h0,x0,rfl⟩⟩:=hvS.of_os
   ·obtain ⟨vb,vbase,hvρ,⟨vc,rfl,vlen,vty,vN,vsh,vcap⟩ | ⟨h0,_⟩⟩:=hvV.of_os
    ·obtain ⟨b',base',hb',ho⟩:=hs.used g _ hg
     rw [hbρ] at hb';cases hb'
     obtain ⟨b',base',hb',hov⟩:=hs.used h _ hh
     rw [hvρ] at hb';cases hb'
     cases ho with
     | arr gh gs gl gf gr =>
     cases hov with
     | arr vh vs' vl vf vr =>
     rename_i cur tyc vcur vtyc
     simp only [Nat.zero_mul,Nat.add_zero,List.length_singleton,Nat.one_mul] at *
     have hsh':N=cur.size:=by
      simp only [World.shape?,gh,Option.some.injEq,Prod.mk.injEq] at hsh;exact hsh.2.symm
     subst hsh'
     have hbb:vb≠b:=fun e=>by
      subst e
      exact hne (hs.inj g h _ _ _ _ _ hg hh hbρ hvρ)
     have EC:ERel G w esz L (fun k=>cur.getD (base+k) undef):=⟨gl,gf,gr⟩
     have EV:ERel G w esz [x] (fun k=>vcur.getD (vbase+k) undef):=⟨vl,vf,vr⟩
     have oC:=EC.one
     have oV:=EV.one
     have cC:=z17 gh gs
     have cV:=z17 vh vs'
     have lC:((List.range (L.length*esz)).map fun k=>cur.getD (base+k) undef).length=L.length*esz:=by simp
     have lV:((List.range esz).map fun k=>vcur.getD (vbase+k) undef).length=esz:=by simp
     simp only [List.length_singleton,Nat.one_mul] at oV
     have hm:(L.length+1)*esz=L.length*esz+esz:=Nat.succ_mul _ _
     by_cases hfit:L.length+1≤c
     ·have hcc:(L.length+1)*esz≤c*esz:=Nat.mul_le_mul_right _ hfit
      have hsN:base+(L.length+1)*esz≤cur.size:=by simp only [Nat.zero_add] at hcap;omega
      have hbig:L.length≤140737488355328:=by
       have:=Nat.mul_le_mul_left (L.length+1) (show 1≤bytes by omega)
       omega
      refine (H.shift b base L.length c vb vbase vc cur vcur tyc vtyc _ _ w hn hbig hfit gh vh hbb lV lC cV cC hsN oV oC).mono ?_
      rintro r w2 ⟨rfl,t1,t2,t3,t4,hH⟩
      have hget:w2.heap[b]? = some (.cells (lay (lay cur (base+esz) ((List.range (L.length*esz)).map fun k=>cur.getD (base+k) undef)) base ((List.range esz).map fun k=>vcur.getD (vbase+k) undef)) tyc (0,0)):=by
       rw [hH];exact zu gh
      have key:=fun (G':Gh) (w':World) (hvr:∀ a v,VRel G w a v→VRel G' w' a v)=>z3l (fv:=fun k=>vcur.getD (vbase+k) undef) (fc:=fun k=>cur.getD (base+k) undef) (G':=G') (w':=w') (o:=base) (cur:=cur) ⟨EV.1,EV.2.1,fun i j hi hj=>hvr _ _ (EV.2.2 i j hi hj)⟩ ⟨EC.1,EC.2.1,fun i j hi hj=>hvr _ _ (EC.2.2 i j hi hj)⟩ hsN _ (.inl rfl)
      have hsz2:=(key G w fun _ _ h=>h).1
      obtain ⟨g1,g2⟩:=hs.put (w':=w2) (o' := .arr esz (x::L)) hg hbρ t1 t2 t3 t4 (by rw [hH];exact yy _ _) (fun c hc=>by rw [hH];exact y6 _ hc)
       (by simp only [World.shape?,hget,gh,hsz2])
       (fun hvr=>by
         obtain ⟨k1,k2,k3,k4⟩:=key G w2 hvr
         exact .arr hget (by rw [k1];simpa using hsN) k2 k3 k4)
      refine ⟨_,.os g esz 0 (L.length+1),G,_,rfl,g1,g2,?_,hQ2 g rfl⟩
      have hs2:w2.shape? b=some (tyc,cur.size):=by simp only [World.shape?,hget,hsz2]
      have:=VRel.os (G:=G) (w:=w2) (esz:=esz) (off:=0) (len:=L.length+1) (c:=c) hbρ hfit ⟨tyc,_,hs2,by simpa using hcap⟩
      simpa using this
     ·obtain rfl:c=L.length:=by omega
      obtain ⟨id,hidρ,hidσ⟩:=hs.fresh
      refine (H.grow b base L.length vb vbase vc cur vcur tyc vtyc _ _ w hn hsz gh vh lV lC cV cC oV oC).mono ?_
      rintro r w2 ⟨cap,row,hcap2,hrow,rfl,t1,t2,t3,hH⟩
      have hcc:(L.length+1)*esz≤cap*esz:=Nat.mul_le_mul_right _ hcap2
      have hsN:0+(L.length+1)*esz≤row.size:=by omega
      have hget:w2.heap[w.heap.size]? = some (.cells (lay (lay row 0 ((List.range esz).map fun k=>vcur.getD (vbase+k) undef)) esz ((List.range (L.length*esz)).map fun k=>cur.getD (base+k) undef)) e (0,0)):=by
       rw [hH];simp
      have key:=fun (G':Gh) (w':World) (hvr:∀ a v,VRel G w a v→VRel G' w' a v)=>z3l (fv:=fun k=>vcur.getD (vbase+k) undef) (fc:=fun k=>cur.getD (base+k) undef) (G':=G') (w':=w') (o:=0) (cur:=row) ⟨EV.1,EV.2.1,fun i j hi hj=>hvr _ _ (EV.2.2 i j hi hj)⟩ ⟨EC.1,EC.2.1,fun i j hi hj=>hvr _ _ (EC.2.2 i j hi hj)⟩ hsN _ (.inr rfl)
      simp only [Nat.zero_add] at key
      have hsz2:=(key G w fun _ _ h=>h).1
      obtain ⟨G',g1,g2,g3⟩:=hs.adopt (w':=w2) (o := .arr esz (x::L)) hidρ hidσ (g:=w.heap.size) (Nat.le_refl _) (by rw [hH];simp) (by rw [hH];simp) t1 t2 t3
       (fun b hb=>by rw [hH,Array.getElem?_push,if_neg (Nat.ne_of_lt hb)])
       (fun G' _ _ hvr=>by
         obtain ⟨k1,k2,k3,k4⟩:=key G' w2 hvr
         refine .arr hget (by rw [k1];simp;omega) k2 k3 fun i j hi hj => ?_
         have:=k4 i j hi hj
         simpa using this)
      refine ⟨_,.os id esz 0 (L.length+1),G',_,rfl,g1,g2,?_,hQ1 id hidσ⟩
      have hs2:w2.shape? w.heap.size=some (e,row.size):=by simp only [World.shape?,hget,hsz2]
      have:=VRel.os (G:=G') (w:=w2) (esz:=esz) (off:=0) (len:=L.length+1) (c:=cap) g3 hcap2 ⟨e,_,hs2,by simp;omega⟩
      simpa using this
    ·cases h0
   ·omega
end
end Go.Am
namespace Go.Am.Ins
open Go.RowKit Go.Shelf Go.Proofs Go.Lib
set_option linter.unusedVariables false
set_option linter.unusedSimpArgs false
theorem z0a:(Try.prog.info? 30).map (fun i=>(i.zero,i.size,i.bytes))=some (some (.int .u32 0),1,4):=by kernel_rfl
set_option maxHeartbeats 4000000 in
set_option maxRecDepth 100000 in
theorem zcv (base:Option Addr) (c:Nat) (xb:Addr) (xc:Nat) (w:World) (v':Value) (w':World) (h:(Builtin.append_ #[31,31] 31 #[.slice base 0 c,.slice (some xb) 1 xc]).run Try.prog w = .ok v' w') :
 Calls Try.prog 89 #[.slice base 0 c,.int .i64 0,.slice (some xb) 1 xc] w fun r w2=>r = .returned v'∧w2=w':=by
 go_enter Try.func89,Try.ntmps89
 cases base with
 | none =>
   go_wp2_with (at_builtin;refine Lib.wpList_append_run _ rfl _ _ _ _ rfl _ _ rfl rfl _ _ h ?_)
   go_ret
   exact ⟨rfl,rfl⟩
 | some a =>
   obtain ⟨ab,ao,asp⟩:=a
   go_wp2_with (at_builtin;refine Lib.wpList_append_run _ rfl _ _ _ _ rfl _ _ rfl rfl _ _ h ?_)
   all_goals (go_ret;exact ⟨rfl,rfl⟩)
set_option maxHeartbeats 4000000 in
set_option maxRecDepth 100000 in
theorem zaq (b o n c vb vo vc:Nat) (cur vcur:Array Value) (t vt:TypeId) (vs cs:List Value) (w:World) (hn:0<n) (hbig:n≤140737488355328) (hroom:n+1≤c) (hb:w.heap[b]? = some (.cells cur t (0,0))) (hv:w.heap[vb]? = some (.cells vcur vt (0,0))) (hne:vb≠b)
 (lv:vs.length=1) (lc:cs.length=n*1) (hvs:∀ j v,vs[j]? = some v→w.cell? ⟨vb,vo+j,none⟩=some v) (hcs:∀ j v,cs[j]? = some v→w.cell? ⟨b,o+j,none⟩=some v) (hsz:o+(n+1)*1≤cur.size)
 (ov:∀ v ∈ vs,v.oneCell'=true) (oc:∀ v ∈ cs,v.oneCell'=true) :
 Calls Try.prog 89 #[.slice (some ⟨b,o,none⟩) n c,.int .i64 0,.slice (some ⟨vb,vo,none⟩) 1 vc] w fun r w2=>r = .returned (.slice (some ⟨b,o,none⟩) (n+1) c)∧w2.tape=w.tape∧w2.os=w.os∧w2.output=w.output∧w.drawn≤w2.drawn ∧
  w2.heap=(w.setRow b (lay (lay cur (o+1) cs) o vs)).heap:=by
 have hz1:¬ ((n:Int)=0):=by omega
 have hz2:¬ ((0:Int)=(n:Int)):=by omega
 have hw1:IntKind.i64.wrap ((n:Int)+1)=(n:Int)+1:=by rw [IntKind.wrap_i64];omega
 have htn:((n:Int)+1).toNat=n+1:=by omega
 have mixed:Try.prog.follows Departure.mixedOrders=true:=by kernel_rfl
 have hw0:IntKind.i64.wrap 1=1:=by decide
 have hb1':(1:Int)≤(n:Int)+1:=by omega
 have hb2':(0:Int)≤(n:Int)+1:=by omega
 have hc1':¬ (c=1):=by omega
 have ht1:(1:Int).toNat=1:=rfl
 have hsS:tsz Try.prog 30=some 1:=by
  obtain ⟨i0,hi0,h0,h1,h2⟩:=info_parts z0a
  unfold tsz;rw [hi0];simp [h1]
 have hsO:∀ w,(Go.sizeOf 30).run Try.prog w = .ok 1 w:=fun w=>zy hsS
 have fz:∀ x k,w.frozen? ⟨vb,x,k⟩=false:=fun x k=>by simp [World.frozen?,hv]
 have hov:∀ o' lb cb,(callFunc 109 #[.slice (some ⟨vb,vo,none⟩) 1 vc,.slice (some ⟨b,o',none⟩) lb cb]).run Try.prog w = .ok (.value (.bool false)) w:=fun o' lb cb=>by
  rw [run_callFunc_extern Try.func109 (by kernel_rfl) (by kernel_rfl) (by kernel_rfl) (e:=Extern.SlicesOverlaps.overlaps #[31,31] #[4]) (by kernel_rfl),
   Lib.run_overlaps_apart w 31 4 30 Try.underlying31 1 hsO ⟨vb,vo,none⟩ ⟨b,o',none⟩ 1 vc lb cb hne vt t vcur.size cur.size (by simp [World.shape?,hv]) (by simp [World.shape?,hb]) (by omega) (fz _ _) (fz _ _)]
  rfl
 have l1:o+1+cs.length≤cur.size:=by omega
 have hcp1:∀ (W:World),W.heap=w.heap→∀ ty dc sc,(Builtin.copy_ #[31,31] ty #[.slice (some ⟨b,o+1,none⟩) n dc,.slice (some ⟨b,o,none⟩) (n+1) sc]).run Try.prog W = .ok (goInt n) (W.setRow b (lay cur (o+1) cs)):=fun W hW ty dc sc =>
  y5 W b (o+1) n dc ⟨b,o,none⟩ (n+1) sc n cur t cs Try.underlying31 hsS (by rw [hW];exact hb) (by simp only [Nat.min_def];split <;> omega) lc
   (fun j v hj=>by have:=hcs j v hj;simpa [y0,World.cell?,hW] using this) l1 oc
 obtain ⟨c1,hc1⟩:∃ c1,c1=lay cur (o+1) cs:=⟨_,rfl⟩
 have s1:c1.size=cur.size:=by rw [hc1];exact w6 l1
 have hb1:(w.setRow b c1).heap[b]? = some (.cells c1 t (0,0)):=zu hb
 have hcp2:∀ (W:World),W.heap=(w.setRow b c1).heap→∀ ty dc,(Builtin.copy_ #[31,31] ty #[.slice (some ⟨b,o,none⟩) (n+1) dc,.slice (some ⟨vb,vo,none⟩) 1 vc]).run Try.prog W = .ok (goInt (1:Nat)) (W.setRow b (lay c1 o vs)):=fun W hW ty dc =>
  y5 W b o (n+1) dc ⟨vb,vo,none⟩ 1 vc 1 c1 t vs Try.underlying31 hsS (by rw [hW];exact hb1) (by simp only [Nat.min_def];split <;> omega) (by omega)
   (fun j v hj=>by have:=hvs j v hj;simpa [y0,World.cell?,hW,y6 c1 hne] using this) (by omega) ov
 rw [←hc1] at hcp1 ⊢
 clear hc1
 go_enter Try.func89,Try.ntmps89
 go_wp2_with (simp only [hov])
 go_region_law_o (refine step_copy_runI rfl _ _ 31 31 rfl (.slice (some ⟨b,o+1,none⟩) n (c - 1)) (.slice (some ⟨b,o,none⟩) (n+1) c) (by simp [Act.eval,Act.put]) (by simp [Act.eval,Act.put]) (hcp1 w.drew rfl 3 (c - 1) c) ?_)
 have hcp3:=hcp2 (w.drew.setRow b c1) rfl
 go_wp2
 go_ret
 refine ⟨rfl,rfl,rfl,rfl,Nat.le_succ _,?_⟩
 rw [setRow_setRow]
 rfl
set_option maxHeartbeats 4000000 in
set_option maxRecDepth 100000 in
theorem zco (b o n vb vo vc:Nat) (cur vcur:Array Value) (t vt:TypeId) (vs cs:List Value) (w:World) (hn:0<n) (hbig:(n+1)*4≤140737488355328) (hb:w.heap[b]? = some (.cells cur t (0,0))) (hv:w.heap[vb]? = some (.cells vcur vt (0,0)))
 (lv:vs.length=1) (lc:cs.length=n*1) (hvs:∀ j v,vs[j]? = some v→w.cell? ⟨vb,vo+j,none⟩=some v) (hcs:∀ j v,cs[j]? = some v→w.cell? ⟨b,o+j,none⟩=some v)
 (ov:∀ v ∈ vs,v.oneCell'=true) (oc:∀ v ∈ cs,v.oneCell'=true) :
 Calls Try.prog 89 #[.slice (some ⟨b,o,none⟩) n n,.int .i64 0,.slice (some ⟨vb,vo,none⟩) 1 vc] w fun r w2=>∃ (cap:Nat) (row:Array Value),n+1≤cap∧row.size=cap*1∧r = .returned (.slice (some ⟨w.heap.size,0,none⟩) (n+1) cap) ∧
  w2.tape=w.tape∧w2.os=w.os∧w2.output=w.output∧w2.heap=w.heap.push (.cells (lay (lay row 0 vs) 1 cs) 30 (0,0)):=by
 obtain ⟨i0,hi0,hz0,hzs,hzb⟩:=info_parts z0a
 have hz1:¬ ((n:Int)=0):=by omega
 have hz2:¬ ((0:Int)=(n:Int)):=by omega
 have hw1:IntKind.i64.wrap ((n:Int)+1)=(n:Int)+1:=by rw [IntKind.wrap_i64];omega
 have mixed:Try.prog.follows Departure.mixedOrders=true:=by kernel_rfl
 have hw0:IntKind.i64.wrap 1=1:=by decide
 have hsS:tsz Try.prog 30=some 1:=by unfold tsz;rw [hi0];simp [hzs]
 have hlt:b<w.heap.size:=(Array.getElem?_eq_some_iff.1 hb).1
 have vlt:vb<w.heap.size:=(Array.getElem?_eq_some_iff.1 hv).1
 obtain ⟨G,hG⟩:∃ G,G=grownCap w (n+1) n 30:=⟨_,rfl⟩
 obtain ⟨row,hrow⟩:∃ row:Array Value,row=Builtin.zeroCells (.int .u32 0:Value).cells (n+1)++Builtin.zeroCells (.int .u32 0:Value).cells (G - (n+1)):=⟨_,rfl⟩
 have hrz:∀ ty,(Builtin.append_ #[31,3] ty #[.slice (some ⟨b,o,none⟩) 0 n,.int .i64 ((n:Int)+1)]).run Try.prog w =
  .ok (.slice (some ⟨w.heap.size,0,none⟩) (n+1) G) (w.drew.alloc (.cells row 30)):=fun ty=>by
  have hle:=u6 (show n<n+1 by omega)
  have h:=Lib.run_append_grow_zeros (P:=Try.prog) w 31 3 ty 30 i0 _ .i64 .i64 Try.underlying31 Try.underlying3 hi0 hz0 (some ⟨b,o,none⟩) 0 n [] y4 (n+1) (by omega) (by omega) (by omega) (by omega) (by rw [hzb];omega)
   (by rw [hzb,Nat.zero_add];have:=Nat.mul_le_mul_right 4 hle;omega)
  rw [Nat.zero_add] at h
  rw [hrow,hG]
  simpa using h
 have hGn:n+1≤G:=by rw [hG];exact grownCap_ge w _ _ _
 have hrs:row.size=G*1:=by
  rw [hrow]
  simp [Builtin.zeroCells,Value.cells]
  omega
 clear hG hrow
 obtain ⟨W1,hW1⟩:∃ W1,W1=w.drew.alloc (.cells row 30):=⟨_,rfl⟩
 have hb1:W1.heap[w.heap.size]? = some (.cells row 30 (0,0)):=by rw [hW1];exact yp (w:=w.drew) _
 have hcell:∀ x j,x<w.heap.size→W1.cell? ⟨x,j,none⟩=w.cell? ⟨x,j,none⟩:=fun x j hx=>by
  rw [hW1];exact World.cell?_alloc_past (w:=w.drew) _ x j hx
 rw [←hW1] at hrz
 have lA:0+vs.length≤row.size:=by
  have:=Nat.mul_le_mul_right 1 hGn
  omega
 have hcpA:∀ (W:World),W.heap=W1.heap→∀ ty dc,(Builtin.copy_ #[31,31] ty #[.slice (some ⟨w.heap.size,0,none⟩) (n+1) dc,.slice (some ⟨vb,vo,none⟩) 1 vc]).run Try.prog W = .ok (goInt (1:Nat)) (W.setRow w.heap.size (lay row 0 vs)):=fun W hW ty dc =>
  y5 W w.heap.size 0 (n+1) dc ⟨vb,vo,none⟩ 1 vc 1 row 30 vs Try.underlying31 hsS (by rw [hW];exact hb1) (by simp only [Nat.min_def];split <;> omega) (by omega)
   (fun j v hj=>by
     have h1:=hvs j v hj
     rw [←hcell vb _ vlt] at h1
     simpa [y0,World.cell?,hW] using h1) lA ov
 obtain ⟨r1,hr1⟩:∃ r1,r1=lay row 0 vs:=⟨_,rfl⟩
 have s1:r1.size=row.size:=by rw [hr1];exact w6 lA
 rw [←hr1] at hcpA
 have hb2:(W1.setRow w.heap.size r1).heap[w.heap.size]? = some (.cells r1 30 (0,0)):=zu hb1
 have lB:1+cs.length≤r1.size:=by
  have:=Nat.mul_le_mul_right 1 hGn
  omega
 have hcpB:∀ (W:World),W.heap=(W1.setRow w.heap.size r1).heap→∀ ty dc sc,(Builtin.copy_ #[31,31] ty #[.slice (some ⟨w.heap.size,1,none⟩) n dc,.slice (some ⟨b,o,none⟩) n sc]).run Try.prog W = .ok (goInt (n:Nat)) (W.setRow w.heap.size (lay r1 1 cs)):=fun W hW ty dc sc =>
  y5 W w.heap.size 1 n dc ⟨b,o,none⟩ n sc n r1 30 cs Try.underlying31 hsS (by rw [hW];exact hb2) (by simp only [Nat.min_def];split <;> omega) lc
   (fun j v hj=>by
     have h1:=hcs j v hj
     rw [←hcell b _ hlt] at h1
     simpa [y0,World.cell?,hW,y6 (w:=W1) r1 (Nat.ne_of_lt hlt)] using h1) lB oc
 have ht1:(1:Int).toNat=1:=rfl
 have hb1':(1:Int)≤(n:Int)+1:=by omega
 have hb2':(0:Int)≤(n:Int)+1:=by omega
 have hc1':¬ (G=1):=by omega
 have hc2':¬ (G=0):=by omega
 subst hW1
 subst hr1
 have hcpD:=hcpA ((w.alloc (.cells row 30)).drew) rfl
 go_enter Try.func89,Try.ntmps89
 go_wp2_with (at_builtin;refine Lib.wpList_append_run _ rfl _ _ _ _ rfl _ _ rfl rfl _ _ (hrz _) ?_)
 have hcpC:=hcpB (((w.alloc (.cells row 30)).drew.setRow w.heap.size (lay row 0 vs)).drew) rfl 3 (G - 1) n
 go_region_law_o (refine step_copy_runI rfl _ _ 31 31 rfl (.slice (some ⟨w.heap.size,1,none⟩) n (G - 1)) (.slice (some ⟨b,o,none⟩) n n) (by simp [Act.eval,Act.put]) (by simp [Act.eval,Act.put]) hcpC ?_)
 go_wp2
 go_ret
 refine ⟨G,row,hGn,hrs,rfl,rfl,rfl,rfl,?_⟩
 exact ue w row _ _ _
theorem holdsU:InsHolds Try.prog 89 31 30 1 4 [.int .u32 0] where
 ent:=⟨_,Try.func89,by decide,rfl⟩
 und:=Try.underlying31
 sz:=by
  obtain ⟨i0,hi0,hz0,hzs,hzb⟩:=info_parts z0a
  unfold tsz;rw [hi0];simp [hzs]
 zero:=by
  obtain ⟨i0,hi0,hz0,hzs,hzb⟩:=info_parts z0a
  unfold tzero;rw [hi0];simp [hz0,Value.cells,AV.ofCell]
 zl:=rfl
 inf:=by
  obtain ⟨i0,hi0,hz0,hzs,hzb⟩:=info_parts z0a
  exact ⟨i0,hi0,hzb,by omega⟩
 onto:=zcv
 shift:=zaq
 grow:=zco
theorem z09:(Try.prog.info? 66).map (fun i=>(i.zero,i.size,i.bytes))=some (some (.agg #[.int .i64 0,.slice none 0 0]),2,32):=by kernel_rfl
set_option maxHeartbeats 4000000 in
set_option maxRecDepth 100000 in
theorem zcu (base:Option Addr) (c:Nat) (xb:Addr) (xc:Nat) (w:World) (v':Value) (w':World) (h:(Builtin.append_ #[29,29] 29 #[.slice base 0 c,.slice (some xb) 1 xc]).run Try.prog w = .ok v' w') :
 Calls Try.prog 90 #[.slice base 0 c,.int .i64 0,.slice (some xb) 1 xc] w fun r w2=>r = .returned v'∧w2=w':=by
 go_enter Try.func90,Try.ntmps90
 cases base with
 | none =>
   go_wp2_with (at_builtin;refine Lib.wpList_append_run _ rfl _ _ _ _ rfl _ _ rfl rfl _ _ h ?_)
   go_ret
   exact ⟨rfl,rfl⟩
 | some a =>
   obtain ⟨ab,ao,asp⟩:=a
   go_wp2_with (at_builtin;refine Lib.wpList_append_run _ rfl _ _ _ _ rfl _ _ rfl rfl _ _ h ?_)
   all_goals (go_ret;exact ⟨rfl,rfl⟩)
set_option maxHeartbeats 4000000 in
set_option maxRecDepth 100000 in
theorem zap (b o n c vb vo vc:Nat) (cur vcur:Array Value) (t vt:TypeId) (vs cs:List Value) (w:World) (hn:0<n) (hbig:n≤140737488355328) (hroom:n+1≤c) (hb:w.heap[b]? = some (.cells cur t (0,0))) (hv:w.heap[vb]? = some (.cells vcur vt (0,0))) (hne:vb≠b)
 (lv:vs.length=2) (lc:cs.length=n*2) (hvs:∀ j v,vs[j]? = some v→w.cell? ⟨vb,vo+j,none⟩=some v) (hcs:∀ j v,cs[j]? = some v→w.cell? ⟨b,o+j,none⟩=some v) (hsz:o+(n+1)*2≤cur.size)
 (ov:∀ v ∈ vs,v.oneCell'=true) (oc:∀ v ∈ cs,v.oneCell'=true) :
 Calls Try.prog 90 #[.slice (some ⟨b,o,none⟩) n c,.int .i64 0,.slice (some ⟨vb,vo,none⟩) 1 vc] w fun r w2=>r = .returned (.slice (some ⟨b,o,none⟩) (n+1) c)∧w2.tape=w.tape∧w2.os=w.os∧w2.output=w.output∧w.drawn≤w2.drawn ∧
  w2.heap=(w.setRow b (lay (lay cur (o+2) cs) o vs)).heap:=by
 have hz1:¬ ((n:Int)=0):=by omega
 have hz2:¬ ((0:Int)=(n:Int)):=by omega
 have hw1:IntKind.i64.wrap ((n:Int)+1)=(n:Int)+1:=by rw [IntKind.wrap_i64];omega
 have htn:((n:Int)+1).toNat=n+1:=by omega
 have mixed:Try.prog.follows Departure.mixedOrders=true:=by kernel_rfl
 have hw0:IntKind.i64.wrap 1=1:=by decide
 have hb1':(1:Int)≤(n:Int)+1:=by omega
 have hb2':(0:Int)≤(n:Int)+1:=by omega
 have hc1':¬ (c=1):=by omega
 have ht1:(1:Int).toNat=1:=rfl
 have hsS:tsz Try.prog 66=some 2:=by
  obtain ⟨i0,hi0,h0,h1,h2⟩:=info_parts z09
  unfold tsz;rw [hi0];simp [h1]
 have hsO:∀ w,(Go.sizeOf 66).run Try.prog w = .ok 2 w:=fun w=>zy hsS
 have fz:∀ x k,w.frozen? ⟨vb,x,k⟩=false:=fun x k=>by simp [World.frozen?,hv]
 have hov:∀ o' lb cb,(callFunc 111 #[.slice (some ⟨vb,vo,none⟩) 1 vc,.slice (some ⟨b,o',none⟩) lb cb]).run Try.prog w = .ok (.value (.bool false)) w:=fun o' lb cb=>by
  rw [run_callFunc_extern Try.func111 (by kernel_rfl) (by kernel_rfl) (by kernel_rfl) (e:=Extern.SlicesOverlaps.overlaps #[29,29] #[4]) (by kernel_rfl),
   Lib.run_overlaps_apart w 29 4 66 Try.underlying29 2 hsO ⟨vb,vo,none⟩ ⟨b,o',none⟩ 1 vc lb cb hne vt t vcur.size cur.size (by simp [World.shape?,hv]) (by simp [World.shape?,hb]) (by omega) (fz _ _) (fz _ _)]
  rfl
 have l1:o+2+cs.length≤cur.size:=by omega
 have hcp1:∀ (W:World),W.heap=w.heap→∀ ty dc sc,(Builtin.copy_ #[29,29] ty #[.slice (some ⟨b,o+2,none⟩) n dc,.slice (some ⟨b,o,none⟩) (n+1) sc]).run Try.prog W = .ok (goInt n) (W.setRow b (lay cur (o+2) cs)):=fun W hW ty dc sc =>
  y5 W b (o+2) n dc ⟨b,o,none⟩ (n+1) sc n cur t cs Try.underlying29 hsS (by rw [hW];exact hb) (by simp only [Nat.min_def];split <;> omega) lc
   (fun j v hj=>by have:=hcs j v hj;simpa [y0,World.cell?,hW] using this) l1 oc
 obtain ⟨c1,hc1⟩:∃ c1,c1=lay cur (o+2) cs:=⟨_,rfl⟩
 have s1:c1.size=cur.size:=by rw [hc1];exact w6 l1
 have hb1:(w.setRow b c1).heap[b]? = some (.cells c1 t (0,0)):=zu hb
 have hcp2:∀ (W:World),W.heap=(w.setRow b c1).heap→∀ ty dc,(Builtin.copy_ #[29,29] ty #[.slice (some ⟨b,o,none⟩) (n+1) dc,.slice (some ⟨vb,vo,none⟩) 1 vc]).run Try.prog W = .ok (goInt (1:Nat)) (W.setRow b (lay c1 o vs)):=fun W hW ty dc =>
  y5 W b o (n+1) dc ⟨vb,vo,none⟩ 1 vc 1 c1 t vs Try.underlying29 hsS (by rw [hW];exact hb1) (by simp only [Nat.min_def];split <;> omega) (by omega)
   (fun j v hj=>by have:=hvs j v hj;simpa [y0,World.cell?,hW,y6 c1 hne] using this) (by omega) ov
 rw [←hc1] at hcp1 ⊢
 clear hc1
 go_enter Try.func90,Try.ntmps90
 go_wp2_with (simp only [hov])
 go_region_law_o (refine step_copy_runI rfl _ _ 29 29 rfl (.slice (some ⟨b,o+2,none⟩) n (c - 1)) (.slice (some ⟨b,o,none⟩) (n+1) c) (by simp [Act.eval,Act.put]) (by simp [Act.eval,Act.put]) (hcp1 w.drew rfl 3 (c - 1) c) ?_)
 have hcp3:=hcp2 (w.drew.setRow b c1) rfl
 go_wp2
 go_ret
 refine ⟨rfl,rfl,rfl,rfl,Nat.le_succ _,?_⟩
 rw [setRow_setRow]
 rfl
set_option maxHeartbeats 4000000 in
set_option maxRecDepth 100000 in
theorem zcn (b o n vb vo vc:Nat) (cur vcur:Array Value) (t vt:TypeId) (vs cs:List Value) (w:World) (hn:0<n) (hbig:(n+1)*32≤140737488355328) (hb:w.heap[b]? = some (.cells cur t (0,0))) (hv:w.heap[vb]? = some (.cells vcur vt (0,0)))
 (lv:vs.length=2) (lc:cs.length=n*2) (hvs:∀ j v,vs[j]? = some v→w.cell? ⟨vb,vo+j,none⟩=some v) (hcs:∀ j v,cs[j]? = some v→w.cell? ⟨b,o+j,none⟩=some v)
 (ov:∀ v ∈ vs,v.oneCell'=true) (oc:∀ v ∈ cs,v.oneCell'=true) :
 Calls Try.prog 90 #[.slice (some ⟨b,o,none⟩) n n,.int .i64 0,.slice (some ⟨vb,vo,none⟩) 1 vc] w fun r w2=>∃ (cap:Nat) (row:Array Value),n+1≤cap∧row.size=cap*2∧r = .returned (.slice (some ⟨w.heap.size,0,none⟩) (n+1) cap) ∧
  w2.tape=w.tape∧w2.os=w.os∧w2.output=w.output∧w2.heap=w.heap.push (.cells (lay (lay row 0 vs) 2 cs) 66 (0,0)):=by
 obtain ⟨i0,hi0,hz0,hzs,hzb⟩:=info_parts z09
 have hz1:¬ ((n:Int)=0):=by omega
 have hz2:¬ ((0:Int)=(n:Int)):=by omega
 have hw1:IntKind.i64.wrap ((n:Int)+1)=(n:Int)+1:=by rw [IntKind.wrap_i64];omega
 have mixed:Try.prog.follows Departure.mixedOrders=true:=by kernel_rfl
 have hw0:IntKind.i64.wrap 1=1:=by decide
 have hsS:tsz Try.prog 66=some 2:=by unfold tsz;rw [hi0];simp [hzs]
 have hlt:b<w.heap.size:=(Array.getElem?_eq_some_iff.1 hb).1
 have vlt:vb<w.heap.size:=(Array.getElem?_eq_some_iff.1 hv).1
 obtain ⟨G,hG⟩:∃ G,G=grownCap w (n+1) n 66:=⟨_,rfl⟩
 obtain ⟨row,hrow⟩:∃ row:Array Value,row=Builtin.zeroCells (.agg #[.int .i64 0,.slice none 0 0]:Value).cells (n+1)++Builtin.zeroCells (.agg #[.int .i64 0,.slice none 0 0]:Value).cells (G - (n+1)):=⟨_,rfl⟩
 have hrz:∀ ty,(Builtin.append_ #[29,3] ty #[.slice (some ⟨b,o,none⟩) 0 n,.int .i64 ((n:Int)+1)]).run Try.prog w =
  .ok (.slice (some ⟨w.heap.size,0,none⟩) (n+1) G) (w.drew.alloc (.cells row 66)):=fun ty=>by
  have hle:=u6 (show n<n+1 by omega)
  have h:=Lib.run_append_grow_zeros (P:=Try.prog) w 29 3 ty 66 i0 _ .i64 .i64 Try.underlying29 Try.underlying3 hi0 hz0 (some ⟨b,o,none⟩) 0 n [] y4 (n+1) (by omega) (by omega) (by omega) (by omega) (by rw [hzb];omega)
   (by rw [hzb,Nat.zero_add];have:=Nat.mul_le_mul_right 32 hle;omega)
  rw [Nat.zero_add] at h
  rw [hrow,hG]
  simpa using h
 have hGn:n+1≤G:=by rw [hG];exact grownCap_ge w _ _ _
 have hrs:row.size=G*2:=by
  rw [hrow]
  simp [Builtin.zeroCells,Value.cells]
  omega
 clear hG hrow
 obtain ⟨W1,hW1⟩:∃ W1,W1=w.drew.alloc (.cells row 66):=⟨_,rfl⟩
 have hb1:W1.heap[w.heap.size]? = some (.cells row 66 (0,0)):=by rw [hW1];exact yp (w:=w.drew) _
 have hcell:∀ x j,x<w.heap.size→W1.cell? ⟨x,j,none⟩=w.cell? ⟨x,j,none⟩:=fun x j hx=>by
  rw [hW1];exact World.cell?_alloc_past (w:=w.drew) _ x j hx
 rw [←hW1] at hrz
 have lA:0+vs.length≤row.size:=by
  have:=Nat.mul_le_mul_right 2 hGn
  omega
 have hcpA:∀ (W:World),W.heap=W1.heap→∀ ty dc,(Builtin.copy_ #[29,29] ty #[.slice (some ⟨w.heap.size,0,none⟩) (n+1) dc,.slice (some ⟨vb,vo,none⟩) 1 vc]).run Try.prog W = .ok (goInt (1:Nat)) (W.setRow w.heap.size (lay row 0 vs)):=fun W hW ty dc =>
  y5 W w.heap.size 0 (n+1) dc ⟨vb,vo,none⟩ 1 vc 1 row 66 vs Try.underlying29 hsS (by rw [hW];exact hb1) (by simp only [Nat.min_def];split <;> omega) (by omega)
   (fun j v hj=>by
     have h1:=hvs j v hj
     rw [←hcell vb _ vlt] at h1
     simpa [y0,World.cell?,hW] using h1) lA ov
 obtain ⟨r1,hr1⟩:∃ r1,r1=lay row 0 vs:=⟨_,rfl⟩
 have s1:r1.size=row.size:=by rw [hr1];exact w6 lA
 rw [←hr1] at hcpA
 have hb2:(W1.setRow w.heap.size r1).heap[w.heap.size]? = some (.cells r1 66 (0,0)):=zu hb1
 have lB:2+cs.length≤r1.size:=by
  have:=Nat.mul_le_mul_right 2 hGn
  omega
 have hcpB:∀ (W:World),W.heap=(W1.setRow w.heap.size r1).heap→∀ ty dc sc,(Builtin.copy_ #[29,29] ty #[.slice (some ⟨w.heap.size,2,none⟩) n dc,.slice (some ⟨b,o,none⟩) n sc]).run Try.prog W = .ok (goInt (n:Nat)) (W.setRow w.heap.size (lay r1 2 cs)):=fun W hW ty dc sc =>
  y5 W w.heap.size 2 n dc ⟨b,o,none⟩ n sc n r1 66 cs Try.underlying29 hsS (by rw [hW];exact hb2) (by simp only [Nat.min_def];split <;> omega) lc
   (fun j v hj=>by
     have h1:=hcs j v hj
     rw [←hcell b _ hlt] at h1
     simpa [y0,World.cell?,hW,y6 (w:=W1) r1 (Nat.ne_of_lt hlt)] using h1) lB oc
 have ht1:(1:Int).toNat=1:=rfl
 have hb1':(1:Int)≤(n:Int)+1:=by omega
 have hb2':(0:Int)≤(n:Int)+1:=by omega
 have hc1':¬ (G=1):=by omega
 have hc2':¬ (G=0):=by omega
 subst hW1
 subst hr1
 have hcpD:=hcpA ((w.alloc (.cells row 66)).drew) rfl
 go_enter Try.func90,Try.ntmps90
 go_wp2_with (at_builtin;refine Lib.wpList_append_run _ rfl _ _ _ _ rfl _ _ rfl rfl _ _ (hrz _) ?_)
 have hcpC:=hcpB (((w.alloc (.cells row 66)).drew.setRow w.heap.size (lay row 0 vs)).drew) rfl 3 (G - 1) n
 go_region_law_o (refine step_copy_runI rfl _ _ 29 29 rfl (.slice (some ⟨w.heap.size,2,none⟩) n (G - 1)) (.slice (some ⟨b,o,none⟩) n n) (by simp [Act.eval,Act.put]) (by simp [Act.eval,Act.put]) hcpC ?_)
 go_wp2
 go_ret
 refine ⟨G,row,hGn,hrs,rfl,rfl,rfl,rfl,?_⟩
 exact ue w row _ _ _
theorem holdsS:InsHolds Try.prog 90 29 66 2 32 [.int .i64 0,.nils] where
 ent:=⟨_,Try.func90,by decide,rfl⟩
 und:=Try.underlying29
 sz:=by
  obtain ⟨i0,hi0,hz0,hzs,hzb⟩:=info_parts z09
  unfold tsz;rw [hi0];simp [hzs]
 zero:=by
  obtain ⟨i0,hi0,hz0,hzs,hzb⟩:=info_parts z09
  unfold tzero;rw [hi0];simp [hz0,Value.cells,AV.ofCell]
 zl:=rfl
 inf:=by
  obtain ⟨i0,hi0,hz0,hzs,hzb⟩:=info_parts z09
  exact ⟨i0,hi0,hzb,by omega⟩
 onto:=zcu
 shift:=zap
 grow:=zcn
end Go.Am.Ins
namespace Go.Am
open Go.Proofs Go.Sort
theorem WeakE.frzArr {e:Env} {σ:Store} {Q:Env→Store→Prop} (g i j:Nat) {id esz off len e2:Nat} {cs es:List (List AV)} {c:List AV} (hg:σ g=some (.arr e2 es)) (hi:es[i]? = some c) (hj:c[j]? = some (.os id esz off len)) (hσ:σ id=some (.arr esz cs)) (hgi:¬ g=id) (hle:off+len≤cs.length)
 (h:WeakE e ((σ.del id).set g (.arr e2 (es.set i (c.set j (.sl esz ((cs.drop off).take len)))))) Q):WeakE e σ Q:=fun G w vs hs hv=>by
 obtain ⟨b,base,hb,ho⟩:=hs.used g _ hg
 obtain ⟨hi',hi2⟩:=List.getElem?_eq_some_iff.1 hi
 obtain ⟨hj',hj2⟩:=List.getElem?_eq_some_iff.1 hj
 subst hi2
 cases ho with
 | arr hh hsz hl hf hvv =>
   rename_i ccs ty
   have h0:=hvv i j hi' hj'
   rw [hj2] at h0
   obtain ⟨G',h1,h2,h3⟩:=xk hs hσ hle h0
   have hp':(σ.del id) g=some (.arr e2 es):=by rw [Store.del_ne _ hgi];exact hg
   have hmem:∀ x ∈ es.set i (es[i].set j (.sl esz ((cs.drop off).take len))),x ∈ es∨x=es[i].set j (.sl esz ((cs.drop off).take len)):=fun x hx=>List.mem_or_eq_of_mem_set hx
   obtain ⟨h4,h5⟩:=h2.obj (o' := .arr e2 (es.set i (es[i].set j (.sl esz ((cs.drop off).take len))))) hp' (fun b' base' hb' ho'=>by
    have e1:=h1.ρ _ _ hb
    rw [hb'] at e1;cases e1
    refine .arr hh (by rw [List.length_set];exact hsz) (fun x hx => ?_) (fun x hx c hcx => ?_) (fun a d hA hB => ?_)
    ·rcases hmem x hx with h | rfl
     ·exact hl x h
     ·rw [List.length_set];exact hl _ (List.getElem_mem hi')
    ·rcases hmem x hx with h | rfl
     ·exact hf x h c hcx
     ·rcases List.mem_or_eq_of_mem_set hcx with h | rfl
      ·exact hf _ (List.getElem_mem hi') c h
      ·rfl
    ·have hA':a<es.length:=by simpa using hA
     by_cases hai:a=i
     ·subst hai
      simp only [List.getElem_set_self] at hB ⊢
      by_cases hbj:d=j
      ·subst hbj
       simp only [List.getElem_set_self];exact h3
      ·rw [List.getElem_set_ne (fun e=>hbj e.symm)]
       exact h1.vrel hs (hvv a d hA' (by simpa using hB))
     ·simp only [List.getElem_set_ne (fun e=>hai e.symm)] at hB ⊢
      exact h1.vrel hs (hvv a d hA' hB))
   obtain ⟨G2,e2',σ2,g1,g2,g3,g4⟩:=h G' w vs h4 (fun u v hu=>by
    obtain ⟨y,hy,hyr⟩:=hv u v hu;exact ⟨y,hy,h1.vrel hs hyr⟩)
   exact ⟨G2,e2',σ2,(h1.trans h5).trans g1,g2,g3,g4⟩
end Go.Am
namespace Go.Am
open Go.Proofs Go.Sort
theorem Weak.ofE {a:AV} {σ:Store} {Q:AV→Store→Prop} (h:WeakE [(0,a)] σ (fun e s=>∃ b,e.get 0=some b∧Q b s)):Weak a σ Q:=fun G w v hs hr=>by
 obtain ⟨G',e',σ',h1,h2,h3,b,h4,h5⟩:=h G w (fun t=>if t=0 then some v else none) hs (fun t x hx=>by
  simp only [Env.get] at hx
  split at hx
  ·rename_i ht;subst ht;cases hx;exact ⟨v,rfl,hr⟩
  ·cases hx)
 obtain ⟨x,hx,hr'⟩:=h3 0 b h4
 simp at hx;subst hx
 exact ⟨G',b,σ',h1,h2,hr',h5⟩
theorem WeakE.cellArr {e:Env} {σ:Store} {Q:Env→Store→Prop} (g i j:Nat) {a b:AV} {e2:Nat} {es:List (List AV)} {c:List AV} (hg:σ g=some (.arr e2 es)) (hi:es[i]? = some c) (hj:c[j]? = some a) (hab:∀ G w v,VRel G w a v→VRel G w b v) (hbf:b.flat=true)
 (h:WeakE e (σ.set g (.arr e2 (es.set i (c.set j b)))) Q):WeakE e σ Q:=fun G w vs hs hv=>by
 obtain ⟨hi',hi2⟩:=List.getElem?_eq_some_iff.1 hi
 obtain ⟨hj',hj2⟩:=List.getElem?_eq_some_iff.1 hj
 subst hi2
 obtain ⟨h4,h5⟩:=hs.obj (o' := .arr e2 (es.set i (es[i].set j b))) hg (fun b' base' hb' ho'=>by
  cases ho' with
  | arr hh hsz hl hf hvv =>
    refine .arr hh (by rw [List.length_set];exact hsz) (fun x hx => ?_) (fun x hx c hcx => ?_) (fun a d hA hB => ?_)
    ·rcases List.mem_or_eq_of_mem_set hx with h | rfl
     ·exact hl x h
     ·rw [List.length_set];exact hl _ (List.getElem_mem hi')
    ·rcases List.mem_or_eq_of_mem_set hx with h | rfl
     ·exact hf x h c hcx
     ·rcases List.mem_or_eq_of_mem_set hcx with h | rfl
      ·exact hf _ (List.getElem_mem hi') c h
      ·exact hbf
    ·have hA':a<es.length:=by simpa using hA
     by_cases hai:a=i
     ·subst hai
      simp only [List.getElem_set_self] at hB ⊢
      by_cases hbj:d=j
      ·subst hbj
       simp only [List.getElem_set_self]
       have:=hvv a d hA' hj'
       rw [hj2] at this
       exact hab _ _ _ this
      ·rw [List.getElem_set_ne (fun e=>hbj e.symm)]
       exact hvv a d hA' (by simpa using hB)
     ·simp only [List.getElem_set_ne (fun e=>hai e.symm)] at hB ⊢
      exact hvv a d hA' hB)
 obtain ⟨G2,e2',σ2,g1,g2,g3,g4⟩:=h G w vs h4 hv
 exact ⟨G2,e2',σ2,h5.trans g1,g2,g3,g4⟩
theorem WeakE.ownArr {e:Env} {τ σ:Store} {Q:Env→Store→Prop} (g i j:Nat) {u:AV} {e2:Nat} {L es:List (List AV)} {c:List AV} (hg:σ g=some (.arr e2 es)) (hi:es[i]? = some c) (hj:c[j]? = some u) (ho:Own 1 τ L u σ) (hs:Store.sub τ σ) (hτ:τ g=none) (hne:¬ e2=1)
 (h:∀ σ',Store.sub τ σ'→σ' g=some (.arr e2 (es.set i (c.set j (.sl 1 L))))→(∀ y o,σ y=some o→¬ y=g→(∀ n,u ≠ .os y 1 0 n)→σ' y=some o)→WeakE e σ' Q):WeakE e σ Q:=by
 rcases ho with ⟨rfl,rfl⟩ | ⟨k,rfl,h2,h3⟩
 ·refine .cellArr g i j hg hi hj (fun G w v h=>q9 1 G w v h) rfl (h _ (zb hs hτ) (Store.set_same _ _ _) fun y o hy hn _=>by rw [Store.set_ne _ _ hn];exact hy)
 ·have hgk:¬ g=k:=fun e=>by
   subst e
   rw [hg] at h3
   simp only [Option.some.injEq,Obj.arr.injEq] at h3
   exact hne h3.1
  refine .frzArr g i j hg hi hj h3 hgk (by omega) ?_
  rw [List.drop_zero,List.take_length]
  refine h _ (zb (sub_del hs h2) hτ) (Store.set_same _ _ _) fun y o hy hn hv => ?_
  rw [Store.set_ne _ _ hn,Store.del_ne _ (fun e=>hv _ (by rw [e]))];exact hy
theorem Own.cellH {esz:Nat} {τ s:Store} {L:List (List AV)} {v:AV} (h:Own esz τ L v s):v.cells=[v]∧v.isTup=false:=by
 rcases h with ⟨_,rfl⟩ | ⟨g,rfl,_⟩ <;> exact ⟨rfl,rfl⟩
def HO (σ:Store) (p:List Seg) (v:AV) (s:Store):Prop :=
 (p=[]∧v = .nils)∨∃ x r u g,p=x::r∧v = .os g 2 0 (r.length+1)∧σ g=none∧s g=some (.arr 2 ([.int .i64 x.kind,u]::r.map Seg.c))∧Own 1 σ (x.ls.map cU) u s
theorem HO.nil {σ s:Store}:HO σ [] .nils s := .inl ⟨rfl,rfl⟩
theorem HO.mono {σ s s':Store} {p:List Seg} {v:AV} (h:HO σ p v s) (hs:Store.sub s s'):HO σ p v s':=by
 rcases h with h | ⟨x,r,u,g,h1,h2,h3,h4,h5⟩
 ·exact .inl h
 ·exact .inr ⟨x,r,u,g,h1,h2,h3,hs _ _ h4,h5.mono hs⟩
theorem HO.freeze {σ s:Store} {p:List Seg} {v:AV} {Q:AV→Store→Prop} (h:HO σ p v s) (hs:Store.sub σ s) (hq:Q (.sl 2 (p.map Seg.c)) σ):Weak v s Q:=by
 rcases h with ⟨rfl,rfl⟩ | ⟨x,r,u,g,rfl,rfl,h3,h4,h5⟩
 ·exact Weak.ofE (WeakE.nil 0 2 rfl (WeakE.forget hs (WeakE.pure ⟨_,rfl,hq⟩)))
 ·refine Weak.ofE (WeakE.ownArr g 0 1 h4 rfl rfl h5 hs h3 (by decide) fun σ' h6 h7 _ => ?_)
  refine WeakE.frz 0 rfl h7 (by simp) (WeakE.forget (sub_del h6 h3) (WeakE.pure ⟨_,rfl,?_⟩))
  have e:List.take (r.length+1) (List.drop 0 (([AV.int .i64 x.kind,u]::r.map Seg.c).set 0 ([AV.int .i64 x.kind,u].set 1 (.sl 1 (x.ls.map cU)))))=(x::r).map Seg.c:=by
   simp [Seg.c]
   exact List.take_of_length_le (by simp)
  rw [e];exact hq
theorem HO.app {bytes:Nat} {σ s:Store} {p:List Seg} {y:Seg} {v wv:AV} {K:AV→Store→Prop} (hs:Store.sub σ s) (ho:HO σ p v s) (hp:p≠[]) (hw:slc s 2 wv=some [y.c]) (hsz:(p.length+1)*bytes≤140737488355328)
 (h:∀ v' s',Store.sub σ s'→HO σ (p++[y]) v' s'→K v' s'):appwp 2 bytes v wv s K:=by
 rcases ho with ⟨rfl,_⟩ | ⟨x,r,u,g,rfl,rfl,h3,h4,h5⟩
 ·exact absurd rfl hp
 ·have hl:([AV.int .i64 x.kind,u]::r.map Seg.c).length=r.length+1:=by simp
  rw [←hl]
  refine yu (zw h4 rfl) hw (by rw [hl];simpa using hsz) fun j hj => ?_
  have hσj:σ j=none:=zk hs hj
  have hjg:∀ z,σ z≠none→z≠j:=fun z hz e=>hz (by rw [e];exact hσj)
  refine h _ _ (fun z q hz => ?_) (.inr ⟨x,r++[y],u,j,by simp,by simp,hσj,by rw [Store.set_same];simp,?_⟩)
  ·have h1:z≠j:=fun e=>by subst e;rw [hσj] at hz;cases hz
   have h2:z≠g:=fun e=>by subst e;rw [h3] at hz;cases hz
   rw [Store.set_ne _ _ h1,Store.del_ne _ h2];exact hs z q hz
  ·rcases h5 with h5 | ⟨k,k1,k2,k3⟩
   ·exact .inl h5
   ·refine .inr ⟨k,k1,k2,?_⟩
    have h1:k≠j:=fun e=>by subst e;rw [hj] at k3;cases k3
    have h2:k≠g:=fun e=>by subst e;rw [h4] at k3;simp at k3
    rw [Store.set_ne _ _ h1,Store.del_ne _ h2];exact k3
theorem zev {σ:Store} (zs:List Int) (h:zs.length≤1000000000):ACalls Try.prog 97 [.sl 1 (zs.map cU)] σ (fun v s=>Store.sub σ s∧Own 1 σ (zs.map cU) v s):=by
 refine zn Tst.F97 (by simp [Tst.F97,Fn.mkX]) ?_
 simp only [Tst.F97,Fn.mkX,Tst.b97]
 simp only [↓vcPre,↓z0,↓reduceIte,vcPost,vcStd,Nat.reduceEqDiff,reduceCtorEq,Nat.reduceAdd,Nat.reduceLeDiff,Int.reduceLT,Int.reduceLE,↓u_setN]
 show nilqwp false (.sl 1 (zs.map cU)) _
 refine z2r fun b hb => ?_
 cases b with
 | true =>
   have hl:zs=[]:=by
    cases zs with
    | nil=>rfl
    | cons x r=>have:=hb (by simp);cases this
   subst hl
   simp only [↓vcPre,↓z0,↓reduceIte,vcPost,vcStd,Nat.reduceEqDiff,reduceCtorEq,Nat.reduceAdd,Nat.reduceLeDiff,Int.reduceLT,Int.reduceLE,↓u_setN]
   exact EndQ.to σ .nils rfl (Store.sub_refl _) ⟨Store.sub_refl _,.inl ⟨rfl,rfl⟩⟩
 | false =>
   simp only [↓vcPre,↓z0,↓reduceIte,vcPost,vcStd,Nat.reduceEqDiff,reduceCtorEq,Nat.reduceAdd,Nat.reduceLeDiff,Int.reduceLT,Int.reduceLE,↓u_setN]
   refine AllocQ.i0 fun i hi => ?_
   simp only [↓vcPre,↓z0,↓reduceIte,vcPost,vcStd,Nat.reduceEqDiff,reduceCtorEq,Nat.reduceAdd,Nat.reduceLeDiff,Int.reduceLT,Int.reduceLE,↓u_setN]
   refine yu (zw (Store.set_same _ _ _) rfl) (y := .sl 1 (zs.map cU)) vu (by simp;omega) fun j hj => ?_
   simp only [List.nil_append,List.length_nil,Nat.zero_add]
   have hσj:σ j=none:=by
    by_cases e:j=i
    ·subst e;exact hi
    ·rw [Store.set_ne _ _ e] at hj;exact hj
   have hs:Store.sub σ (((σ.set i (.arr 1 [])).del i).set j (.arr 1 (zs.map cU))):=fun z o hz=>by
    have h1:z≠j:=fun e=>by subst e;rw [hσj] at hz;cases hz
    have h2:z≠i:=fun e=>by subst e;rw [hi] at hz;cases hz
    rw [Store.set_ne _ _ h1,Store.del_ne _ h2,Store.set_ne _ _ h2];exact hz
   exact EndQ.to _ (.os j 1 0 (zs.map cU).length) rfl (Store.sub_refl _) ⟨hs,.inr ⟨j,rfl,hσj,Store.set_same _ _ _⟩⟩
theorem zeu {σ:Store} (p:List Seg) (h:p.length≤1000000) (ho:∀ s ∈ p,s.ok):ACalls Try.prog 72 [.sl 2 (p.map Seg.c)] σ (fun v s=>Store.sub σ s∧HO σ p v s):=by
 refine zn Tst.F72 (by simp [Tst.F72,Fn.mkX]) ?_
 simp only [Tst.F72,Fn.mkX,Tst.b72]
 simp only [↓vcPre,↓z0,↓reduceIte,vcPost,vcStd,Nat.reduceEqDiff,reduceCtorEq,Nat.reduceAdd,Nat.reduceLeDiff,Int.reduceLT,Int.reduceLE,↓u_setN]
 refine LoopQ.inv (S:=Nat×AV×Store) (fun q=>[(3,q.2.1),(6,.sl 2 (p.map Seg.c)),(7,.int .i64 (p.length:Int)),(8,.int .i64 (q.1:Int))]) (fun q=>q.2.2)
  (fun q=>q.1≤p.length∧Store.sub σ q.2.2∧HO σ (p.take q.1) q.2.1 q.2.2) (fun q=>p.length+1 - q.1) (0,.nils,σ) rfl (Store.sub_refl _) ⟨by simp only;omega,Store.sub_refl _,.nil⟩ ?_
 rintro ⟨k,v,s⟩ ⟨hk,hs,ho'⟩
 simp only at hk hs ho'
 simp only [↓vcPre,↓z0,↓reduceIte,vcPost,vcStd,Nat.reduceEqDiff,reduceCtorEq,Nat.reduceAdd,Nat.reduceLeDiff,Int.reduceLT,Int.reduceLE,↓u_setN]
 refine ⟨fun c1 => ?_,fun c1 => ?_⟩
 ·have ek:IntKind.i64.wrap ((k:Int)+1)=((k+1:Nat):Int):=by rw [zj (by unfold I64;omega)];omega
  refine ⟨c1,by simp [Seg.c],?_⟩
  refine AllocQ.i0 fun i hi => ?_
  have hok:=ho _ (List.getElem_mem c1)
  unfold Seg.ok at hok
  simp only [Seg.c,Store.set_set,↓vcPre,↓z0,↓reduceIte,vcPost,vcStd,Nat.reduceEqDiff,reduceCtorEq,Nat.reduceAdd,Nat.reduceLeDiff,Int.reduceLT,Int.reduceLE,↓u_setN]
  cases k with
  | zero =>
    rcases ho' with ⟨_,rfl⟩ | ⟨x,r,u,g,h1,_⟩
    ·have hs1:=Store.sub_set s i (.box [AV.int .i64 p[0].kind,.sl 1 (p[0].ls.map cU)]) hi
     refine (zev (σ:=s.set i (.box [AV.int .i64 p[0].kind,.sl 1 (p[0].ls.map cU)])) p[0].ls (by omega)).Q ?_
     rintro u s1 ⟨k1,k2⟩
     refine ⟨k1,?_⟩
     have k3:=k1 _ _ (Store.set_same s i (.box [AV.int .i64 p[0].kind,.sl 1 (p[0].ls.map cU)]))
     obtain ⟨hu1,hu2⟩:=k2.cellH
     have hu3:splice 0 [u] [AV.nils]=some [u]:=rfl
     simp only [k3,hu1,hu2,hu3,↓vcPre,↓z0,↓reduceIte,vcPost,vcStd,Nat.reduceEqDiff,reduceCtorEq,Nat.reduceAdd,Nat.reduceLeDiff,Int.reduceLT,Int.reduceLE,↓u_setN]
     refine AllocQ.i0 fun j hj => ?_
     simp only [↓vcPre,↓z0,↓reduceIte,vcPost,vcStd,Nat.reduceEqDiff,reduceCtorEq,Nat.reduceAdd,Nat.reduceLeDiff,Int.reduceLT,Int.reduceLE,↓u_setN]
     have sA:Store.sub s s1:=Store.sub_trans hs1 k1
     refine q7 (zw (Store.set_same _ _ _) rfl) (by simp) (fun h0=>by cases h0) fun _ a ha => ?_
     rw [ek]
     have haj:¬ a=j:=fun e=>by subst e;rw [Store.set_same] at ha;cases ha
     have ha1:s1 a=none:=by rw [Store.set_ne _ _ haj] at ha;exact ha
     have hσa:=zk (Store.sub_trans hs sA) ha1
     have hσj:=zk (Store.sub_trans hs sA) hj
     refine NextQ.to (1,.os a 2 0 1,_) rfl (Store.sub_refl _) (by simp only;omega) ⟨by simp only;omega,zb (zb (Store.sub_trans hs sA) hσj) hσa,?_⟩
     simp only [List.take_add_one,List.getElem?_eq_getElem c1,Option.toList_some,List.take_zero,List.nil_append]
     refine .inr ⟨p[0],[],u,a,rfl,rfl,hσa,Store.set_same _ _ _,?_⟩
     exact (k2.weak (Store.sub_trans hs hs1)).mono (Store.sub_trans (Store.sub_set s1 j _ hj) (Store.sub_set _ a _ ha))
    ·simp at h1
  | succ k =>
    refine (c97 _ (by omega)).q' ?_
    simp only [Store.set_set,↓vcPre,↓z0,↓reduceIte,vcPost,vcStd,Nat.reduceEqDiff,reduceCtorEq,Nat.reduceAdd,Nat.reduceLeDiff,Int.reduceLT,Int.reduceLE,↓u_setN]
    refine AllocQ.i1 fun j hj1 hj2 hj => ?_
    simp only [↓vcPre,↓z0,↓reduceIte,vcPost,vcStd,Nat.reduceEqDiff,reduceCtorEq,Nat.reduceAdd,Nat.reduceLeDiff,Int.reduceLT,Int.reduceLE,↓u_setN]
    refine HO.app (σ:=σ) (y:=p[k+1]) (Store.sub_trans hs (zq hi hj hj1)) (ho'.mono (zq hi hj hj1)) (fun e => ?_) (zw (Store.set_same _ _ _) rfl) (by simp;omega) fun v' s' hs' ho'' => ?_
    ·have:=congrArg List.length e
     rw [List.length_take,Nat.min_eq_left (by omega)] at this
     simp at this
    rw [ek]
    refine NextQ.to (k+1+1,v',s') rfl (Store.sub_refl _) (by simp only;omega) ⟨by simp only;omega,hs',?_⟩
    simp only
    rw [List.take_succ_eq_append_getElem c1]
    exact ho''
 ·have hkl:p.take k=p:=List.take_of_length_le (by omega)
  rw [hkl] at ho'
  exact EndQ.to s v rfl (Store.sub_refl _) ⟨hs,ho'⟩
def preA1 (x:Int):List Seg→List Seg
 | []=>[⟨2,[x]⟩]
 | s::r=>if s.kind=2∧s.ls.length<255 then ⟨s.kind,x::s.ls⟩::r else ⟨2,[x]⟩::s::r
def preA (x:Int):Nat→List Seg→List Seg
 | 0,p=>p
 | n+1,p=>preA1 x (preA x n p)
theorem z5e (x:Int) (p:List Seg):(preA1 x p).length≤p.length+1:=by
 unfold preA1
 cases p with
 | nil=>simp
 | cons s r=>simp only;split <;> simp
theorem ub (x:Int) (n:Nat) (p:List Seg):(preA x n p).length≤p.length+n:=by
 induction n with
 | zero=>simp [preA]
 | succ n ih=>have:=z5e x (preA x n p);simp only [preA];omega
theorem z6z (x:Int) (p:List Seg) (h:∀ s ∈ p,s.ok):∀ s ∈ preA1 x p,s.ok:=by
 unfold preA1
 cases p with
 | nil=>intro s hs;simp at hs;subst hs;simp [Seg.ok]
 | cons y r =>
   simp only
   split
   ·rename_i hc
    intro s hs
    rcases List.mem_cons.1 hs with rfl | hs
    ·simp only [Seg.ok,List.length_cons];omega
    ·exact h s (by simp [hs])
   ·intro s hs
    rcases List.mem_cons.1 hs with rfl | hs
    ·simp [Seg.ok]
    ·exact h s hs
theorem qb (x:Int) (n:Nat) (p:List Seg) (h:∀ s ∈ p,s.ok):∀ s ∈ preA x n p,s.ok:=by
 induction n with
 | zero=>exact h
 | succ n ih=>exact z6z x _ ih
theorem z0p {σ s0 s:Store} {p:List Seg} {v:AV} {x:Int} {k1 k2:Nat} (ho:HO σ p v s0) (hs0:Store.sub σ s0) (hs:Store.sub s0 s) (h1:s0 k1=none) (h2:s0 k2=none) (e1:s k1=some (.arr 1 [cU x])) (e2:s k2=some (.arr 2 [[.int .i64 2,.os k1 1 0 1]]))
 (hl:p.length≤2000000):ACalls Try.prog 90 [v,.int .i64 0,.os k2 2 0 1] s (fun v' s'=>Store.sub σ s'∧HO σ (⟨2,[x]⟩::p) v' s'):=by
 have hσ1:=zk hs0 h1
 have hσs:=Store.sub_trans hs0 hs
 rcases ho with ⟨rfl,rfl⟩ | ⟨y,r,u,g,rfl,rfl,h3,h4,h5⟩
 ·refine wq (L:=[]) Ins.holdsS e2 (.inl ⟨rfl,rfl⟩) (by simp) (fun id hid => ?_) (fun g hg=>by cases hg)
  have hσi:=zk hσs hid
  refine ⟨zb hσs hσi,.inr ⟨⟨2,[x]⟩,[],.os k1 1 0 1,id,rfl,rfl,hσi,Store.set_same _ _ _,.inr ⟨k1,rfl,hσ1,?_⟩⟩⟩
  rw [Store.set_ne _ _ (fun e=>by subst e;rw [e1] at hid;cases hid)]
  exact e1
 ·have hl':([AV.int .i64 y.kind,u]::r.map Seg.c).length=r.length+1:=by simp
  have e4:=hs _ _ h4
  have hgk:¬ g=k2:=fun e=>by subst e;rw [h2] at h4;cases h4
  have h5':=h5.mono hs
  have key:∀ id,(s id=none∨id=g)→Weak (.os id 2 0 (([AV.int .i64 y.kind,u]::r.map Seg.c).length+1)) (s.set id (.arr 2 ([.int .i64 2,.os k1 1 0 1]::[AV.int .i64 y.kind,u]::r.map Seg.c))) (fun v' s'=>Store.sub σ s'∧HO σ (⟨2,[x]⟩::y::r) v' s'):=by
   intro id hid
   have hσi:σ id=none:=by
    rcases hid with h | rfl
    ·exact zk hσs h
    ·exact h3
   have hk1:¬ k1=id:=fun e=>by
    subst e
    rcases hid with h | rfl
    ·rw [e1] at h;cases h
    ·rw [e4] at e1;simp at e1
   have ho2:Own 1 σ (y.ls.map cU) u (s.set id (.arr 2 ([.int .i64 2,.os k1 1 0 1]::[AV.int .i64 y.kind,u]::r.map Seg.c))):=by
    rcases h5' with h | ⟨j,q1,q2,q3⟩
    ·exact .inl h
    ·refine .inr ⟨j,q1,q2,?_⟩
     rw [Store.set_ne _ _ (fun e => ?_)]
     ·exact q3
     ·subst e
      rcases hid with h | rfl
      ·rw [q3] at h;cases h
      ·rw [e4] at q3;simp at q3
   refine Weak.ofE (WeakE.ownArr id 1 1 (Store.set_same _ _ _) rfl rfl ho2 (zb hσs hσi) hσi (by decide) fun σ' h6 h7 h8=>WeakE.pure ⟨_,rfl,h6,?_⟩)
   refine .inr ⟨⟨2,[x]⟩,y::r,.os k1 1 0 1,id,rfl,by simp,hσi,?_,.inr ⟨k1,rfl,hσ1,?_⟩⟩
   ·rw [h7];simp [Seg.c]
   ·refine h8 k1 _ (by rw [Store.set_ne _ _ hk1];exact e1) hk1 fun n e => ?_
    subst e
    rcases h5 with ⟨_,h⟩ | ⟨j,q1,q2,q3⟩
    ·cases h
    ·simp only [AV.os.injEq] at q1
     obtain ⟨rfl,_⟩:=q1
     rw [h1] at q3;cases q3
  rw [←hl']
  refine ACalls.weakRes (wq (L:=[AV.int .i64 y.kind,u]::r.map Seg.c) (Q:=fun v s'=>Weak v s' (fun v' s'=>Store.sub σ s'∧HO σ (⟨2,[x]⟩::y::r) v' s')) Ins.holdsS e2 (.inr ⟨g,rfl,e4,hgk⟩) (by rw [hl'];simp at hl ⊢;omega) (fun id hid=>key id (.inl hid)) (fun g' hg' => ?_)) fun _ _ h=>h
  simp only [AV.os.injEq] at hg'
  obtain ⟨rfl,_⟩:=hg'
  exact key g (.inr rfl)
end Go.Am
namespace Go.Am.Ts15
open Go.Proofs Go.Am.B
def b42:BC:=z [k 2 .nils] [0] (z [k 3 .nils] [0,3] (.seq (z [j 4 0] [0,3,4] (.block 0 (.loop [0,3,4] (.seq (z [m 5 4,m 6 0,u 7 .len 6,b 8 .lss 5 7] [0,3,4,8] (.cond (.t 8) .skip (.exit 0))) (.seq (.block 1 (z [m 11 3] [0,4,11] (z [m 12 0] [0,4,11,12] (z [m 13 4] [0,4,11,12,13] (z [x 14 2 12 13] [0,4,11,14] (z [f 15 0 14] [0,4,11,15] (z [m 18 0] [0,4,11,15,18] (z [m 19 4] [0,4,11,15,18,19] (z [x 20 2 18 19] [0,4,11,15,20] (z [f 21 1 20] [0,4,11,15,21] (z [l 22 1 21] [0,4,11,15,22] (.both (z [l 16 1 15] [0,4,11,16,22] (z [⟨some 17,none,.alloc (.mksl 1 0),[]⟩] [0,4,11,16,17,22] (z [⟨some 23,none,.loud (.app 1 4),[.t 17,.t 22]⟩] [0,4,11,16,23] (z [p 24 (.build [(.int .i64 0),.nils] [(0,1),(1,1)]) [.t 16,.t 23]] [0,4,11,24] (z [⟨some 25,none,.alloc (.mksl 2 1),[.t 24]⟩] [0,4,11,25] (z [⟨some 26,none,.loud (.app 2 32),[.t 11,.t 25]⟩] [0,4,26] (z [m 3 26] [0,3,4] (.ops [] [0,3,4])))))))) (.both (z [⟨some 17,none,.alloc (.mksl 1 0),[]⟩] [0,4,11,15,17,22] (.both (z [l 16 1 15] [0,4,11,16,17,22] (z [⟨some 23,none,.loud (.app 1 4),[.t 17,.t 22]⟩] [0,4,11,16,23] (z [p 24 (.build [(.int .i64 0),.nils] [(0,1),(1,1)]) [.t 16,.t 23]] [0,4,11,24] (z [⟨some 25,none,.alloc (.mksl 2 1),[.t 24]⟩] [0,4,11,25] (z [⟨some 26,none,.loud (.app 2 32),[.t 11,.t 25]⟩] [0,4,26] (z [m 3 26] [0,3,4] (.ops [] [0,3,4]))))))) (.both (z [⟨some 23,none,.loud (.app 1 4),[.t 17,.t 22]⟩] [0,4,11,15,23] (z [l 16 1 15] [0,4,11,16,23] (z [p 24 (.build [(.int .i64 0),.nils] [(0,1),(1,1)]) [.t 16,.t 23]] [0,4,11,24] (z [⟨some 25,none,.alloc (.mksl 2 1),[.t 24]⟩] [0,4,11,25] (z [⟨some 26,none,.loud (.app 2 32),[.t 11,.t 25]⟩] [0,4,26] (z [m 3 26] [0,3,4] (.ops [] [0,3,4]))))))) (.top)))) (.top)))))))))))))) (.ops [m 9 4,c 10 .add 9 1,m 4 10] [0,3,4])))))) (.seq (.wk 6 (.ops [m 27 3,m 2 27] [2])) .ret)))
def F42:Fn Try.prog 42:=Fn.mkW false [6] b42 [.t 2] 28 Try.f42 _ Try.func42 (by decide) rfl Try.ntmps42 (by kernel_rfl) (by kernel_rfl)
end Go.Am.Ts15
namespace Go.Am
open Go.Proofs Go.Sort
def preN (n:Int):Nat:=(min (max n 0) 10).toNat
set_option maxHeartbeats 1000000 in
theorem zad (p:List Seg) (h:p.length≤1000000) (ho:∀ s ∈ p,s.ok) (x n:Int):Pur Try.prog 67 [.sl 2 (p.map Seg.c),.int .u32 x,.int .i64 n] (.sl 2 ((preA x (preN n) p).map Seg.c)):=by
 intro σ
 refine zn Tst.F67 (by simp [Tst.F67,Fn.mkX]) ?_
 simp only [Tst.F67,Fn.mkX,Tst.b67]
 simp only [↓vcPre,↓z0,↓reduceIte,vcPost,vcStd,Nat.reduceEqDiff,reduceCtorEq,Nat.reduceAdd,Nat.reduceLeDiff,Int.reduceLT,Int.reduceLE,↓u_setN]
 refine (zeu (σ:=σ) p h ho).Q ?_
 rintro v0 s0 ⟨hs0,ho0⟩
 simp only [↓vcPre,↓z0,↓reduceIte,vcPost,vcStd,Nat.reduceEqDiff,reduceCtorEq,Nat.reduceAdd,Nat.reduceLeDiff,Int.reduceLT,Int.reduceLE,↓u_setN]
 have em:(if 10<(if 0>n then (0:Int) else n) then (10:Int) else (if 0>n then 0 else n))=(preN n:Int):=by
  unfold preN;split <;> (try split) <;> omega
 rw [em]
 have hm:preN n≤10:=by unfold preN;omega
 generalize preN n=m at hm
 refine LoopQ.inv (S:=Nat×AV×Store) (fun q=>[(0,q.2.1),(1,.int .u32 x),(11,.int .i64 (m:Int)),(12,.int .i64 (q.1:Int))]) (fun q=>q.2.2)
  (fun q=>q.1≤m∧Store.sub σ q.2.2∧HO σ (preA x q.1 p) q.2.1 q.2.2) (fun q=>m+1 - q.1) (0,v0,s0) rfl (Store.sub_refl _) ⟨by simp only;omega,hs0,ho0⟩ ?_
 rintro ⟨k,v,s⟩ ⟨hk,hs,ho'⟩
 simp only at hk hs ho'
 simp only [↓vcPre,↓z0,↓reduceIte,vcPost,vcStd,Nat.reduceEqDiff,reduceCtorEq,Nat.reduceAdd,Nat.reduceLeDiff,Int.reduceLT,Int.reduceLE,↓u_setN]
 refine ⟨fun c1 => ?_,fun c1 => ?_⟩
 ·have ek:IntKind.i64.wrap ((k:Int)+1)=((k+1:Nat):Int):=by rw [zj (by unfold I64;omega)];omega
  have hpl:=ub x k p
  have hpo:=qb x k p ho
  have hstep:preA x (k+1) p=preA1 x (preA x k p):=rfl
  have c1':k<m:=by omega
  generalize preA x k p=P0 at ho' hpl hpo hstep
  rcases ho' with ⟨rfl,rfl⟩ | ⟨y,r,u,g,rfl,rfl,h3,h4,h5⟩
  ·simp only [↓vcPre,↓z0,↓reduceIte,vcPost,vcStd,Nat.reduceEqDiff,reduceCtorEq,Nat.reduceAdd,Nat.reduceLeDiff,Int.reduceLT,Int.reduceLE,↓u_setN]
   refine AllocQ.i0 fun k1 hk1 => ?_
   simp only [↓vcPre,↓z0,↓reduceIte,vcPost,vcStd,Nat.reduceEqDiff,reduceCtorEq,Nat.reduceAdd,Nat.reduceLeDiff,Int.reduceLT,Int.reduceLE,↓u_setN]
   refine AllocQ.i1 fun k2 n21 n12 hk2 => ?_
   simp only [↓vcPre,↓z0,↓reduceIte,vcPost,vcStd,Nat.reduceEqDiff,reduceCtorEq,Nat.reduceAdd,Nat.reduceLeDiff,Int.reduceLT,Int.reduceLE,↓u_setN]
   refine (z0p (x:=x) (k1:=k1) (k2:=k2) (HO.nil (σ:=σ) (s:=s)) hs (zq hk1 hk2 n21) hk1 hk2 (by rw [Store.set_ne _ _ n12];exact Store.set_same _ _ _) (Store.set_same _ _ _) (by simp)).Q ?_
   rintro v' s' ⟨q1,q2⟩
   simp only [ek,↓vcPre,↓z0,↓reduceIte,vcPost,vcStd,Nat.reduceEqDiff,reduceCtorEq,Nat.reduceAdd,Nat.reduceLeDiff,Int.reduceLT,Int.reduceLE,↓u_setN]
   refine NextQ.to (k+1,v',s') rfl (Store.sub_refl _) (by simp only;omega) ⟨by simp only;omega,q1,?_⟩
   simp only
   rw [hstep];exact q2
  ·have eg:∀ h,([AV.int .i64 y.kind,u]::r.map Seg.c)[0+Int.toNat 0]'h=[AV.int .i64 y.kind,u]:=fun _=>rfl
   have hlu:pv .len [u]=some (.int .i64 (y.ls.length:Int)):=by
    rcases h5 with ⟨q1,rfl⟩ | ⟨j,rfl,_⟩
    ·have:y.ls=[]:=by simpa using q1
     rw [this];rfl
    ·simp [pv,pLen]
   simp only [h4,eg,hlu,↓vcPre,↓z0,↓reduceIte,vcPost,vcStd,Nat.reduceEqDiff,reduceCtorEq,Nat.reduceAdd,Nat.reduceLeDiff,Int.reduceLT,Int.reduceLE,↓u_setN]
   refine ⟨fun _=>⟨by omega,by simp,fun c2=>⟨by omega,by simp,fun c3=>⟨by omega,by simp,?_⟩,fun c3 => ?_⟩,fun c2 => ?_⟩,fun c=>absurd (by omega) c⟩
   ·refine AllocQ.i0 fun h1 hh1 => ?_
    simp only [↓vcPre,↓z0,↓reduceIte,vcPost,vcStd,Nat.reduceEqDiff,reduceCtorEq,Nat.reduceAdd,Nat.reduceLeDiff,Int.reduceLT,Int.reduceLE,↓u_setN]
    have hgh:¬ g=h1:=fun e=>by subst e;rw [h4] at hh1;cases hh1
    have hsh:=Store.sub_set s h1 (.arr 1 [[.int .u32 x]]) hh1
    have hl1:y.ls.length=(y.ls.map cU).length:=by simp
    have hS:(u = .nils∧y.ls.map cU=[])∨∃ j,u = .os j 1 0 (y.ls.map cU).length∧(s.set h1 (.arr 1 [[.int .u32 x]])) j=some (.arr 1 (y.ls.map cU))∧j≠h1:=by
     rcases h5 with ⟨q1,rfl⟩ | ⟨j,rfl,q2,q3⟩
     ·exact .inl ⟨rfl,q1⟩
     ·exact .inr ⟨j,rfl,hsh _ _ q3,fun e=>by subst e;rw [hh1] at q3;cases q3⟩
    have e4:=hsh _ _ h4
    have fin:∀ id s2,(∀ z o,(s.set h1 (.arr 1 [[.int .u32 x]])) z=some o→¬ z=id→s2 z=some o)→σ id=none→s2 id=some (.arr 1 ([.int .u32 x]::y.ls.map cU))→¬ g=id→s2 g=some (.arr 2 ([AV.int .i64 y.kind,u]::r.map Seg.c))∧Store.sub σ s2:=by
     intro id s2 q1 q2 q3 q4
     refine ⟨q1 _ _ e4 q4,fun z o hz=>q1 z o (hsh _ _ (hs _ _ hz)) fun e=>by subst e;rw [q2] at hz;cases hz⟩
    refine (wq (Q:=fun v' s'=>∃ id,v' = .os id 1 0 (y.ls.length+1)∧σ id=none∧s' id=some (.arr 1 ([.int .u32 x]::y.ls.map cU))∧s' g=some (.arr 2 ([AV.int .i64 y.kind,u]::r.map Seg.c))∧Store.sub σ s'∧¬ g=id) Ins.holdsU (Store.set_same _ _ _) hS (by rw [←hl1];omega) (fun id hid => ?_) (fun j hj => ?_)).Q ?_
    ·have hσi:=zk (Store.sub_trans hs hsh) hid
     have hgi:¬ g=id:=fun e=>by subst e;rw [e4] at hid;cases hid
     obtain ⟨f1,f2⟩:=fin id ((s.set h1 (.arr 1 [[.int .u32 x]])).set id (.arr 1 ([.int .u32 x]::y.ls.map cU))) (fun z o hz hn=>by rw [Store.set_ne _ _ hn];exact hz) hσi (Store.set_same _ _ _) hgi
     exact ⟨id,by rw [hl1],hσi,Store.set_same _ _ _,f1,f2,hgi⟩
    ·rcases h5 with ⟨q1,rfl⟩ | ⟨j',rfl,q2,q3⟩
     ·cases hj
     ·simp only [AV.os.injEq] at hj
      obtain ⟨rfl,_⟩:=hj
      have hgi:¬ g=j':=fun e=>by subst e;rw [h4] at q3;simp at q3
      obtain ⟨f1,f2⟩:=fin j' ((s.set h1 (.arr 1 [[.int .u32 x]])).set j' (.arr 1 ([.int .u32 x]::y.ls.map cU))) (fun z o hz hn=>by rw [Store.set_ne _ _ hn];exact hz) q2 (Store.set_same _ _ _) hgi
      exact ⟨j',by rw [hl1],q2,Store.set_same _ _ _,f1,f2,hgi⟩
    ·rintro v' s' ⟨id,rfl,q1,q2,q3,q4,q5⟩
     simp only [q3,eg,↓vcPre,↓z0,↓reduceIte,vcPost,vcStd,Nat.reduceEqDiff,reduceCtorEq,Nat.reduceAdd,Nat.reduceLeDiff,Int.reduceLT,Int.reduceLE,↓u_setN]
     rw [ek]
     refine ⟨by omega,by simp,NextQ.to (k+1,.os g 2 0 (r.length+1),s'.set g (.arr 2 (([AV.int .i64 y.kind,u]::r.map Seg.c).set (0+Int.toNat 0) [.int .i64 y.kind,.os id 1 0 (y.ls.length+1)]))) rfl (Store.sub_refl _) (by simp only;omega) ⟨by simp only;omega,zb q4 h3,?_⟩⟩
     simp only
     rw [hstep]
     simp only [preA1]
     rw [if_pos ⟨c2,by omega⟩]
     refine .inr ⟨⟨y.kind,x::y.ls⟩,r,.os id 1 0 (y.ls.length+1),g,rfl,rfl,h3,?_,.inr ⟨id,by simp,q1,?_⟩⟩
     ·rw [Store.set_same];rfl
     ·rw [Store.set_ne _ _ (fun e=>q5 e.symm)];simpa [cU] using q2
   ·refine AllocQ.i0 fun k1 hk1 => ?_
    simp only [↓vcPre,↓z0,↓reduceIte,vcPost,vcStd,Nat.reduceEqDiff,reduceCtorEq,Nat.reduceAdd,Nat.reduceLeDiff,Int.reduceLT,Int.reduceLE,↓u_setN]
    refine AllocQ.i1 fun k2 n21 n12 hk2 => ?_
    simp only [↓vcPre,↓z0,↓reduceIte,vcPost,vcStd,Nat.reduceEqDiff,reduceCtorEq,Nat.reduceAdd,Nat.reduceLeDiff,Int.reduceLT,Int.reduceLE,↓u_setN]
    refine (z0p (x:=x) (k1:=k1) (k2:=k2) (.inr ⟨y,r,u,g,rfl,rfl,h3,h4,h5⟩) hs (zq hk1 hk2 n21) hk1 hk2 (by rw [Store.set_ne _ _ n12];exact Store.set_same _ _ _) (Store.set_same _ _ _) (by omega)).Q ?_
    rintro v' s' ⟨q1,q2⟩
    simp only [ek,↓vcPre,↓z0,↓reduceIte,vcPost,vcStd,Nat.reduceEqDiff,reduceCtorEq,Nat.reduceAdd,Nat.reduceLeDiff,Int.reduceLT,Int.reduceLE,↓u_setN]
    refine NextQ.to (k+1,v',s') rfl (Store.sub_refl _) (by simp only;omega) ⟨by simp only;omega,q1,?_⟩
    simp only
    rw [hstep]
    simp only [preA1]
    rw [if_neg (by omega)];exact q2
   ·refine AllocQ.i0 fun k1 hk1 => ?_
    simp only [↓vcPre,↓z0,↓reduceIte,vcPost,vcStd,Nat.reduceEqDiff,reduceCtorEq,Nat.reduceAdd,Nat.reduceLeDiff,Int.reduceLT,Int.reduceLE,↓u_setN]
    refine AllocQ.i1 fun k2 n21 n12 hk2 => ?_
    simp only [↓vcPre,↓z0,↓reduceIte,vcPost,vcStd,Nat.reduceEqDiff,reduceCtorEq,Nat.reduceAdd,Nat.reduceLeDiff,Int.reduceLT,Int.reduceLE,↓u_setN]
    refine (z0p (x:=x) (k1:=k1) (k2:=k2) (.inr ⟨y,r,u,g,rfl,rfl,h3,h4,h5⟩) hs (zq hk1 hk2 n21) hk1 hk2 (by rw [Store.set_ne _ _ n12];exact Store.set_same _ _ _) (Store.set_same _ _ _) (by omega)).Q ?_
    rintro v' s' ⟨q1,q2⟩
    simp only [ek,↓vcPre,↓z0,↓reduceIte,vcPost,vcStd,Nat.reduceEqDiff,reduceCtorEq,Nat.reduceAdd,Nat.reduceLeDiff,Int.reduceLT,Int.reduceLE,↓u_setN]
    refine NextQ.to (k+1,v',s') rfl (Store.sub_refl _) (by simp only;omega) ⟨by simp only;omega,q1,?_⟩
    simp only
    rw [hstep]
    simp only [preA1]
    rw [if_neg (by omega)];exact q2
 ·have hkm:k=m:=by omega
  subst hkm
  refine EndQ.weak v rfl (HO.freeze ho' hs ⟨rfl,rfl⟩)
end Go.Am
namespace Go.Am.Ts20
open Go.Proofs Go.Am.B
def t51_44:BC := .seq (.wk 9 (.ops [⟨some 44,none,.load (.ld 9 true),[.t 5]⟩,g 45 43 [.t 44],s 9 6 45] [6])) .ret
def t51_28:BC := .seq (z [f 28 11 3,l 29 1 28,p 30 (.bin .neq) [.t 29,.c (.int .u32 0)],m 31 30,⟨some 32,some (31,true),.pure (.fld 8),[.t 5]⟩,⟨some 33,some (31,true),.load (.ld 1 false),[.t 32]⟩,⟨some 34,some (31,true),.pure (.len),[.t 33]⟩,⟨some 35,some (31,true),.pure (.bin .lss),[.t 34,.c (.int .i64 32)]⟩,⟨some 36,none,.pick,[.t 31,.t 35,.c (.bool false)]⟩] [3,5,6,36] (.cond (.t 36) (.ops [f 37 8 5,l 38 1 37,f 39 11 3,l 40 1 39,⟨some 41,none,.alloc (.mksl 1 1),[.t 40]⟩,⟨some 42,none,.loud (.app 1 4),[.t 38,.t 41]⟩,f 43 8 5,s 1 43 42] [5,6]) .skip)) t51_44
def t51_19:BC:=z [f 19 1 5,l 20 1 19,m 21 1,f 22 10 3,l 23 1 22,g 24 67 [.t 20,.t 21,.t 23],f 25 1 5,s 1 25 24] [3,5,6] (z [⟨some 26,none,.load (.ld 9 true),[.t 5]⟩,g 27 43 [.t 26],s 9 5 27] [3,5,6] t51_28)
def t51_13:BC := .seq (z [f 13 8 3,l 14 1 13] [1,3,5,6,14] (.cond (.t 14) (z [f 15 9 3] [1,3,5,6,15] (z [f 17 3 5] [1,3,5,6,15,17] (.both (z [l 16 1 15] [1,3,5,6,16,17] (z [⟨none,none,.loud (.st 1),[.t 17,.c (.bool true)]⟩] [1,3,5,6,16] (z [f 18 4 5] [1,3,5,6,16,18] (z [s 1 18 16] [1,3,5,6] (.ops [] [1,3,5,6]))))) (.both (z [⟨none,none,.loud (.st 1),[.t 17,.c (.bool true)]⟩] [1,3,5,6,15] (z [l 16 1 15] [1,3,5,6,16] (z [f 18 4 5] [1,3,5,6,16,18] (z [s 1 18 16] [1,3,5,6] (.ops [] [1,3,5,6]))))) (.top))))) .skip)) t51_19
def b51:BC:=z [⟨some 3,none,.alloc (.box),[.t 0]⟩,⟨some 5,none,.alloc (.box),[.t 2]⟩,⟨some 6,none,.alloc (.alloc [(.int .i64 0),.nils,(.int .u32 0),(.bool false),(.int .u32 0),(.bool false),(.int .u32 0),(.bool false),.nils]),[]⟩] [1,3,5,6] (.seq (z [f 7 6 3,l 8 1 7] [1,3,5,6,8] (.cond (.t 8) (z [f 9 7 3] [1,3,5,6,9] (z [f 11 5 5] [1,3,5,6,9,11] (.both (z [l 10 1 9] [1,3,5,6,10,11] (z [⟨none,none,.loud (.st 1),[.t 11,.c (.bool true)]⟩] [1,3,5,6,10] (z [f 12 6 5] [1,3,5,6,10,12] (z [s 1 12 10] [1,3,5,6] (.ops [] [1,3,5,6]))))) (.both (z [⟨none,none,.loud (.st 1),[.t 11,.c (.bool true)]⟩] [1,3,5,6,9] (z [l 10 1 9] [1,3,5,6,10] (z [f 12 6 5] [1,3,5,6,10,12] (z [s 1 12 10] [1,3,5,6] (.ops [] [1,3,5,6]))))) (.top))))) .skip)) t51_13)
def F51:Fn Try.prog 51:=Fn.mkW false [9] b51 [.c 6 9 true] 46 Try.f51 _ Try.func51 (by decide) rfl Try.ntmps51 (by kernel_rfl) (by kernel_rfl)
end Go.Am.Ts20
namespace Go.Am
open Go.Proofs Go.Sort
def CO (σ:Store) (L:List Int) (u:AV) (s:Store):Prop :=
 (L=[]∧u = .nils)∨∃ g,∃ M:List Int,u = .os g 1 0 L.length∧σ g=none∧s g=some (.arr 1 (M.map cU))∧L.length≤M.length∧M.take L.length=L
theorem CO.slc {σ s:Store} {L:List Int} {u:AV} (h:CO σ L u s):slc s 1 u=some (L.map cU):=by
 rcases h with ⟨rfl,rfl⟩ | ⟨g,M,rfl,_,h3,h4,h5⟩
 ·rfl
 ·rw [qd h3 (by simpa using h4),List.drop_zero,←List.map_take,h5]
theorem CO.len {σ s:Store} {L:List Int} {u:AV} (h:CO σ L u s):pv .len [u]=some (.int .i64 (L.length:Int)):=by
 rcases h with ⟨rfl,rfl⟩ | ⟨g,M,rfl,_⟩ <;> rfl
theorem CO.mono {σ s s':Store} {L:List Int} {u:AV} (h:CO σ L u s) (hs:∀ g o,σ g=none→s g=some o→s' g=some o):CO σ L u s':=by
 rcases h with h | ⟨g,M,h1,h2,h3,h4⟩
 ·exact .inl h
 ·exact .inr ⟨g,M,h1,h2,hs _ _ h2 h3,h4⟩
theorem CO.cell {σ s:Store} {L:List Int} {u:AV} (h:CO σ L u s):u.cells=[u]∧u.isTup=false∧u.flat=true:=by
 rcases h with ⟨rfl,rfl⟩ | ⟨g,M,rfl,_⟩ <;> exact ⟨rfl,rfl,rfl⟩
theorem zet (a:At) (h:a.ok) (σ:Store):ACalls Try.prog 43 [.agg a.c] σ (fun r s=>∃ u,r = .agg ((canonA a).cO u)∧CO σ (canonA a).cms u s∧Store.sub σ s):=by
 refine (s43 a h σ).mono ?_
 rintro r s (⟨hz,rfl,rfl⟩ | ⟨g,M,m1,m2,m3,rfl,rfl⟩)
 ·exact ⟨.nils,rfl,.inl ⟨hz,rfl⟩,Store.sub_refl _⟩
 ·exact ⟨_,rfl,.inr ⟨g,M,rfl,m1,Store.set_same _ _ _,m2,m3⟩,Store.sub_set _ _ _ m1⟩
theorem WeakE.coBox {e:Env} {σ s:Store} {Q:Env→Store→Prop} (p:Nat) {b:At} {u:AV} (hp:s p=some (.box (b.cO u))) (ho:CO σ b.cms u s) (hs:Store.sub σ s) (hσ:σ p=none)
 (h:∀ s',Store.sub σ s'→s' p=some (.box b.c)→(∀ y o,s y=some o→¬ y=p→(∀ n,u ≠ .os y 1 0 n)→s' y=some o)→WeakE e s' Q):WeakE e s Q:=by
 rcases ho with ⟨h1,rfl⟩ | ⟨g,M,rfl,h2,h3,h4,h5⟩
 ·refine .cell p 8 hp rfl (fun G w v h=>q9 1 G w v h) rfl (h _ (zb hs hσ) (by rw [Store.set_same];simp [At.cO,At.c,h1]) fun y o hy hn _=>by rw [Store.set_ne _ _ hn];exact hy)
 ·refine .frzBox p 8 hp rfl h3 (by simpa using h4) ?_
  refine h _ (zb (sub_del hs h2) hσ) ?_ fun y o hy hn hv => ?_
  ·rw [Store.set_same,List.drop_zero,←List.map_take,h5];rfl
  ·rw [Store.set_ne _ _ hn,Store.del_ne _ (fun e=>hv _ (by rw [e]))];exact hy
theorem CO.app {bytes:Nat} {σ s:Store} {L:List Int} {u wv:AV} {x:Int} {K:AV→Store→Prop} (ho:CO σ L u s) (hs:Store.sub σ s) (hw:Go.Am.slc s 1 wv=some [cU x]) (hb:bytes=4) (hl:L.length≤1000000)
 (h:∀ j s',σ j=none→s' j=some (.arr 1 ((L++[x]).map cU))→(∀ y o,s y=some o→(∀ n,u ≠ .os y 1 0 n)→s' y=some o∧¬ y=j)→Store.sub σ s'→K (.os j 1 0 (L++[x]).length) s'):appwp 1 bytes u wv s K:=by
 subst hb
 have hsl:=ho.slc
 rcases ho with ⟨rfl,rfl⟩ | ⟨g,M,rfl,h2,h3,h4,h5⟩
 ·refine q7 hw (by simp) (fun h0=>by cases h0) fun _ j hj => ?_
  have hσj:=zk hs hj
  refine h j _ hσj (Store.set_same _ _ _) (fun y o hy _ => ?_) (zb hs hσj)
  have hn:¬ y=j:=fun e=>by subst e;rw [hj] at hy;cases hy
  exact ⟨by rw [Store.set_ne _ _ hn];exact hy,hn⟩
 ·refine yu hsl hw (by simp;omega) fun j hj => ?_
  have hσj:=zk hs hj
  have e:(L.map cU).length+[cU x].length=(L++[x]).length:=by simp
  rw [e]
  refine h j _ hσj (by rw [Store.set_same,List.map_append];rfl) (fun y o hy hn2 => ?_) (fun y o hy => ?_)
  ·have hn:¬ y=j:=fun e=>by subst e;rw [hj] at hy;cases hy
   exact ⟨by rw [Store.set_ne _ _ hn,Store.del_ne _ (fun e=>hn2 L.length (by rw [e]))];exact hy,hn⟩
  ·have n1:¬ y=j:=fun e=>by subst e;rw [hσj] at hy;cases hy
   have n2:¬ y=g:=fun e=>by subst e;rw [h2] at hy;cases hy
   rw [Store.set_ne _ _ n1,Store.del_ne _ n2];exact hs _ _ hy
theorem CO.notBox {σ s:Store} {L:List Int} {u:AV} (h:CO σ L u s) {p:Nat} {cs:List AV} (hp:s p=some (.box cs)):∀ n,u ≠ .os p 1 0 n:=fun n e=>by
 rcases h with ⟨_,rfl⟩ | ⟨g,M,rfl,_,h3,_⟩
 ·cases e
 ·simp only [AV.os.injEq] at e
  obtain ⟨rfl,_⟩:=e
  rw [hp] at h3;cases h3
def pathA (r:Rule) (x:Int) (b:At):At:={ b with path:=preA x (preN r.pp) b.path }
def commA (r:Rule) (b:At):At:=if r.ac≠0∧b.cms.length<32 then { b with cms:=b.cms++[r.ac] } else b
def doneN (r:Rule) (x:Int) (a:At):At:=canonA (commA r (canonA (pathA r x (medA r (prfA r a)))))
section
variable {r:Rule} {σ:Store} {n rr:Env→Store→Prop} {xx:Nat→Env→Store→Prop} {p3 p5 p6:Nat} {as1:Int}
theorem z01 {T:Store} (b:At) (hb:b.ok) (z:List AV) (hz:z.length=9) (h6:σ p6=none) (E:List (Nat×AV)) (e0:Env) (he:e0=(5,.ptr p5 0)::(6,.ptr p6 0)::E∨∃ y,e0=(3,y)::(5,.ptr p5 0)::(6,.ptr p6 0)::E)
 (hw:WeakE e0 T (fun e' T'=>e'=e0∧T' p5=some (.box b.c)∧T' p6=some (.box z)∧Store.sub σ T'))
 (hr:∀ t',Store.sub σ t'→t' p6=some (.box (canonA b).c)→rr [(6,.ptr p6 0)] t'):bwp Try.prog Ts20.t51_44 e0 T n rr xx:=by
 simp only [Ts20.t51_44]
 have e9:∀ y:At,y.c.length=9:=fun _=>rfl
 have t9:∀ y:At,List.take 9 y.c=y.c:=fun _=>rfl
 have sZ:∀ y:At,splice 0 y.c z=some y.c:=fun y=>x7 _ _ (by rw [hz];rfl)
 rcases he with rfl | ⟨y,rfl⟩
 all_goals
  simp only [↓vcPre,↓z0,↓reduceIte,vcPost,vcStd,Nat.reduceEqDiff,reduceCtorEq,Nat.reduceAdd,Nat.reduceLeDiff,Int.reduceLT,Int.reduceLE,↓u_setN]
  refine WkQ.of (hw.mono fun e' s' ⟨q1,q2,q3,q4⟩ => ?_)
  subst q1
  simp only [q2,q3,e9,t9,↓vcPre,↓z0,↓reduceIte,vcPost,vcStd,Nat.reduceEqDiff,reduceCtorEq,Nat.reduceAdd,Nat.reduceLeDiff,Int.reduceLT,Int.reduceLE,↓u_setN]
  refine (c43 b hb).Q ?_
  simp only [q3,sZ,↓vcPre,↓z0,↓reduceIte,vcPost,vcStd,Nat.reduceEqDiff,reduceCtorEq,Nat.reduceAdd,Nat.reduceLeDiff,Int.reduceLT,Int.reduceLE,↓u_setN]
  exact ⟨rfl,hr _ (zb q4 h6) (Store.set_same _ _ _)⟩
theorem z79 {T:Store} (b:At) (hb:b.ok) (hb2:b.cms.length≤900000) (u:AV) (z:List AV) (hz:z.length=9) (h35:¬ p3=p5) (h65:¬ p6=p5) (T3:T p3=some (.box r.c)) (T5:T p5=some (.box (b.cO u))) (T6:T p6=some (.box z)) (ho:CO σ b.cms u T) (hs:Store.sub σ T) (h5:σ p5=none) (h6:σ p6=none) (E:List (Nat×AV))
 (hr:∀ t',Store.sub σ t'→t' p6=some (.box (canonA (commA r b)).c)→rr [(6,.ptr p6 0)] t'):bwp Try.prog Ts20.t51_28 ((3,.ptr p3 0)::(5,.ptr p5 0)::(6,.ptr p6 0)::E) T n rr xx:=by
 simp only [Ts20.t51_28]
 have e12:∀ y:Rule,y.c.length=12:=fun _=>rfl
 have o9:∀ (y:At) u,(y.cO u).length=9:=fun _ _=>rfl
 have r11:List.take 1 (List.drop 11 r.c)=[.int .u32 r.ac]:=rfl
 have o8:List.take 1 (List.drop 8 (b.cO u))=[u]:=rfl
 have s8:∀ v,splice 8 [v] (b.cO u)=some (b.cO v):=fun _=>rfl
 have hlu:=ho.len
 have no:∀ e0,WeakE e0 T (fun e' T'=>e'=e0∧T' p5=some (.box b.c)∧T' p6=some (.box z)∧Store.sub σ T'):=fun e0 =>
  WeakE.coBox p5 T5 ho hs h5 fun s' q1 q2 q3=>WeakE.pure ⟨rfl,q2,q3 _ _ T6 h65 (ho.notBox T6),q1⟩
 have hc1:¬ (r.ac≠0∧b.cms.length<32)→commA r b=b:=fun h=>by unfold commA;rw [if_neg h]
 have hc2:(r.ac≠0∧b.cms.length<32)→commA r b={ b with cms:=b.cms++[r.ac] }:=fun h=>by unfold commA;rw [if_pos h]
 simp only [T3,T5,r11,o8,e12,o9,hlu,↓vcPre,↓z0,↓reduceIte,vcPost,vcStd,Nat.reduceEqDiff,reduceCtorEq,Nat.reduceAdd,Nat.reduceLeDiff,Int.reduceLT,Int.reduceLE,↓u_setN]
 refine ⟨fun c1=>⟨fun c2 => ?_,fun c2 => ?_⟩,fun c1 => ?_⟩
 ·rw [hc2 ⟨c1,by omega⟩] at hr
  refine AllocQ.i0 fun d hd => ?_
  have ho1:=ho.mono (s':=T.set d (.arr 1 [[.int .u32 r.ac]])) fun g o _ hg=>Store.sub_set T d _ hd _ _ hg
  have hd1:σ d=none:=zk hs hd
  have h5d:¬ p5=d:=fun e=>by subst e;rw [T5] at hd;cases hd
  simp only [↓vcPre,↓z0,↓reduceIte,vcPost,vcStd,Nat.reduceEqDiff,reduceCtorEq,Nat.reduceAdd,Nat.reduceLeDiff,Int.reduceLT,Int.reduceLE,↓u_setN]
  refine CO.app ho1 (Store.sub_trans hs (Store.sub_set T d _ hd)) (zw (Store.set_same _ _ _) rfl) rfl (by omega) fun j s' q1 q2 q3 q4 => ?_
  obtain ⟨k5,n5⟩:=q3 _ _ (Store.sub_set T d _ hd _ _ T5) (ho.notBox T5)
  obtain ⟨k6,n6⟩:=q3 _ _ (Store.sub_set T d _ hd _ _ T6) (ho.notBox T6)
  simp only [k5,s8,o9,↓vcPre,↓z0,↓reduceIte,vcPost,vcStd,Nat.reduceEqDiff,reduceCtorEq,Nat.reduceAdd,Nat.reduceLeDiff,Int.reduceLT,Int.reduceLE,↓u_setN]
  refine z01 { b with cms:=b.cms++[r.ac] } ⟨hb.1,hb.2.1,by simp;omega⟩ z hz h6 [] _ (.inl rfl) (WeakE.coBox (σ:=σ) (u := .os j 1 0 (b.cms++[r.ac]).length) (b:={ b with cms:=b.cms++[r.ac] }) p5 (Store.set_same _ _ _) (.inr ⟨j,b.cms++[r.ac],rfl,q1,by rw [Store.set_ne _ _ (fun e=>n5 e.symm)];exact q2,Nat.le_refl _,List.take_length⟩) (zb q4 h5) h5 fun s2 w1 w2 w3=>WeakE.pure ⟨rfl,w2,w3 _ _ (by rw [Store.set_ne _ _ h65];exact k6) h65 (fun n e => ?_),w1⟩) hr
  simp only [AV.os.injEq] at e
  exact n6 e.1.symm
 ·rw [hc1 (by omega)] at hr
  refine z01 b hb z hz h6 _ _ (.inr ⟨_,rfl⟩) (no _) hr
 ·rw [hc1 (by omega)] at hr
  refine z01 b hb z hz h6 _ _ (.inr ⟨_,rfl⟩) (no _) hr
theorem z2h {T:Store} (b:At) (hb:b.ok) (hb2:b.path.length≤900000) (hb3:b.cms.length≤900000) (z:List AV) (hz:z.length=9) (h35:¬ p3=p5) (h65:¬ p6=p5) (T3:T p3=some (.box r.c)) (T5:T p5=some (.box b.c)) (T6:T p6=some (.box z)) (hs:Store.sub σ T) (h5:σ p5=none) (h6:σ p6=none) (E:List (Nat×AV))
 (hr:∀ t',Store.sub σ t'→t' p6=some (.box (canonA (commA r (canonA (pathA r as1 b)))).c)→rr [(6,.ptr p6 0)] t'):bwp Try.prog Ts20.t51_19 ((1,.int .u32 as1)::(3,.ptr p3 0)::(5,.ptr p5 0)::(6,.ptr p6 0)::E) T n rr xx:=by
 simp only [Ts20.t51_19]
 have e12:∀ y:Rule,y.c.length=12:=fun _=>rfl
 have e9:∀ y:At,y.c.length=9:=fun _=>rfl
 have t9:∀ y:At,List.take 9 y.c=y.c:=fun _=>rfl
 have b1:List.take 1 (List.drop 1 b.c)=[.sl 2 (b.path.map Seg.c)]:=rfl
 have r10:List.take 1 (List.drop 10 r.c)=[.int .i64 r.pp]:=rfl
 have s1:splice 1 [AV.sl 2 ((preA as1 (preN r.pp) b.path).map Seg.c)] b.c=some (pathA r as1 b).c:=rfl
 have hP:(pathA r as1 b).ok:=by
  have:=ub as1 (preN r.pp) b.path
  have h10:preN r.pp≤10:=by unfold preN;omega
  exact ⟨by simp only [pathA];omega,qb as1 _ _ hb.2.1,hb.2.2⟩
 simp only [T3,T5,b1,r10,e12,e9,↓vcPre,↓z0,↓reduceIte,vcPost,vcStd,Nat.reduceEqDiff,reduceCtorEq,Nat.reduceAdd,Nat.reduceLeDiff,Int.reduceLT,Int.reduceLE,↓u_setN]
 refine (zad b.path hb.1 hb.2.1 as1 r.pp).Q ?_
 simp only [T3,T5,s1,e9,t9,↓vcPre,↓z0,↓reduceIte,vcPost,vcStd,Nat.reduceEqDiff,reduceCtorEq,Nat.reduceAdd,Nat.reduceLeDiff,Int.reduceLT,Int.reduceLE,↓u_setN]
 have U3:=(Store.set_ne T (.box (pathA r as1 b).c) h35).trans T3
 have U6:=(Store.set_ne T (.box (pathA r as1 b).c) h65).trans T6
 have U5:=Store.set_same T p5 (.box (pathA r as1 b).c)
 have sU:Store.sub σ (T.set p5 (.box (pathA r as1 b).c)):=zb hs h5
 generalize T.set p5 (.box (pathA r as1 b).c)=U at U3 U5 U6 sU ⊢
 refine (zet _ hP U).Q ?_
 rintro v s ⟨u,rfl,ho,hs2⟩
 obtain ⟨hu1,hu2,hu3⟩:=ho.cell
 have V3:=hs2 _ _ U3
 have V5:=hs2 _ _ U5
 have V6:=hs2 _ _ U6
 have sA:splice 0 ((canonA (pathA r as1 b)).cO u) (pathA r as1 b).c=some ((canonA (pathA r as1 b)).cO u):=rfl
 have o9:∀ (y:At) u,(y.cO u).length=9:=fun _ _=>rfl
 simp only [V5,sA,o9,e9,↓vcPre,↓z0,↓reduceIte,vcPost,vcStd,Nat.reduceEqDiff,reduceCtorEq,Nat.reduceAdd,Nat.reduceLeDiff,Int.reduceLT,Int.reduceLE,↓u_setN]
 refine z79 (canonA (pathA r as1 b)) (xz hP) (by have:=wc (pathA r as1 b).cms;simp only [canonA,pathA] at *;omega) u z hz h35 h65 ((Store.set_ne _ _ h35).trans V3) (Store.set_same _ _ _) ((Store.set_ne _ _ h65).trans V6) ?_ (zb (Store.sub_trans sU hs2) h5) h5 h6 [] hr
 rcases ho with ⟨q1,q2⟩ | ⟨g,M,q1,q2,q3,q4⟩
 ·exact .inl ⟨q1,q2⟩
 ·refine .inr ⟨g,M,q1,zk sU q2,?_,q4⟩
  rw [Store.set_ne _ _ (fun e=>by subst e;rw [V5] at q3;cases q3)];exact q3
theorem z2g {T:Store} (b:At) (hb:b.ok) (hb2:b.path.length≤900000) (hb3:b.cms.length≤900000) (z:List AV) (hz:z.length=9) (h35:¬ p3=p5) (h65:¬ p6=p5) (T3:T p3=some (.box r.c)) (T5:T p5=some (.box b.c)) (T6:T p6=some (.box z)) (hs:Store.sub σ T) (h5:σ p5=none) (h6:σ p6=none) (E:List (Nat×AV))
 (hr:∀ t',Store.sub σ t'→t' p6=some (.box (canonA (commA r (canonA (pathA r as1 (medA r b))))).c)→rr [(6,.ptr p6 0)] t'):bwp Try.prog Ts20.t51_13 ((1,.int .u32 as1)::(3,.ptr p3 0)::(5,.ptr p5 0)::(6,.ptr p6 0)::E) T n rr xx:=by
 simp only [Ts20.t51_13]
 have e12:∀ y:Rule,y.c.length=12:=fun _=>rfl
 have e9:∀ y:At,y.c.length=9:=fun _=>rfl
 have r8:List.take 1 (List.drop 8 r.c)=[.bool r.sm]:=rfl
 have r9:List.take 1 (List.drop 9 r.c)=[.int .u32 r.md]:=rfl
 have s3:splice 3 [.bool true] b.c=some ({ b with hm:=true }:At).c:=rfl
 have s4:splice 4 [.int .u32 r.md] ({ b with hm:=true }:At).c=some ({ b with hm:=true,med:=r.md }:At).c:=rfl
 have h53:¬ p5=p3:=fun e=>h35 e.symm
 unfold medA at hr
 simp only [T3,r8,e12,↓vcPre,↓z0,↓reduceIte,vcPost,vcStd,Nat.reduceEqDiff,reduceCtorEq,Nat.reduceAdd,Nat.reduceLeDiff,Int.reduceLT,Int.reduceLE,↓u_setN]
 cases h:r.sm
 ·rw [h] at hr
  simp only [Bool.false_eq_true,if_false] at hr
  simp only [↓vcPre,↓z0,↓reduceIte,vcPost,vcStd,Nat.reduceEqDiff,reduceCtorEq,Nat.reduceAdd,Nat.reduceLeDiff,Int.reduceLT,Int.reduceLE,↓u_setN]
  exact z2h b hb hb2 hb3 z hz h35 h65 T3 T5 T6 hs h5 h6 _ hr
 ·rw [h] at hr
  simp only [if_true] at hr
  simp only [T3,T5,r9,e12,e9,s3,s4,h35,h53,↓vcPre,↓z0,↓reduceIte,vcPost,vcStd,Nat.reduceEqDiff,reduceCtorEq,Nat.reduceAdd,Nat.reduceLeDiff,Int.reduceLT,Int.reduceLE,↓u_setN]
  have key:=fun (E:List (Nat×AV))=>z2h (as1:=as1) (n:=n) (rr:=rr) (xx:=xx) (T:=(T.set p5 (.box ({ b with hm:=true }:At).c)).set p5 (.box ({ b with hm:=true,med:=r.md }:At).c)) { b with hm:=true,med:=r.md } hb hb2 hb3 z hz h35 h65 (((Store.set_ne _ _ h35).trans (Store.set_ne _ _ h35)).trans T3) (Store.set_same _ _ _) (((Store.set_ne _ _ h65).trans (Store.set_ne _ _ h65)).trans T6) (zb (zb hs h5) h5) h5 h6 E hr
  exact ⟨key [],key []⟩
end
set_option maxHeartbeats 1000000 in
theorem zeb (r:Rule) (as1:Int) (a:At) (ha:a.ok) (ha2:a.path.length≤900000) (ha3:a.cms.length≤900000):Pur Try.prog 51 [.agg r.c,.int .u32 as1,.agg a.c] (.agg (doneN r as1 a).c):=by
 refine zp Ts20.F51 (by simp [Ts20.F51,Fn.mkW]) fun σ => ?_
 simp only [Ts20.F51,Fn.mkW,Ts20.b51,x9]
 simp only [↓vcPre,↓z0,↓reduceIte,vcPost,vcStd,Nat.reduceEqDiff,reduceCtorEq,Nat.reduceAdd,Nat.reduceLeDiff,Int.reduceLT,Int.reduceLE,↓u_setN]
 refine AllocQ.i0 fun p3 h3 => ?_
 simp only [↓vcPre,↓z0,↓reduceIte,vcPost,vcStd,Nat.reduceEqDiff,reduceCtorEq,Nat.reduceAdd,Nat.reduceLeDiff,Int.reduceLT,Int.reduceLE,↓u_setN]
 refine AllocQ.i1 fun p5 h53 h35 h5 => ?_
 simp only [↓vcPre,↓z0,↓reduceIte,vcPost,vcStd,Nat.reduceEqDiff,reduceCtorEq,Nat.reduceAdd,Nat.reduceLeDiff,Int.reduceLT,Int.reduceLE,↓u_setN]
 refine AllocQ.i2 fun p6 h63 h36 h65 h56 h6 => ?_
 have sT:Store.sub σ (((σ.set p3 (.box r.c)).set p5 (.box a.c)).set p6 (.box zCells)):=zb (zq h3 h5 h53) h6
 have T6:(((σ.set p3 (.box r.c)).set p5 (.box a.c)).set p6 (.box zCells)) p6=some (.box zCells):=Store.set_same _ _ _
 have T5:(((σ.set p3 (.box r.c)).set p5 (.box a.c)).set p6 (.box zCells)) p5=some (.box a.c):=by rw [Store.set_ne _ _ h56];exact Store.set_same _ _ _
 have T3:(((σ.set p3 (.box r.c)).set p5 (.box a.c)).set p6 (.box zCells)) p3=some (.box r.c):=by rw [Store.set_ne _ _ h36,Store.set_ne _ _ h35];exact Store.set_same _ _ _
 have e12:∀ y:Rule,y.c.length=12:=fun _=>rfl
 have e9:∀ y:At,y.c.length=9:=fun _=>rfl
 have t9:∀ y:At,List.take 9 y.c=y.c:=fun _=>rfl
 have r6:List.take 1 (List.drop 6 r.c)=[.bool r.sp]:=rfl
 have r7:List.take 1 (List.drop 7 r.c)=[.int .u32 r.pf]:=rfl
 have s5:splice 5 [.bool true] a.c=some ({ a with hp:=true }:At).c:=rfl
 have s6:splice 6 [.int .u32 r.pf] ({ a with hp:=true }:At).c=some ({ a with hp:=true,prf:=r.pf }:At).c:=rfl
 have fin:∀ t',Store.sub σ t'→t' p6=some (.box (doneN r as1 a).c)→(fun (e:Env) (τ:Store)=>((e.get 6).bind fun p=>Option.map AV.agg (rd τ 9 p))=some (AV.agg (doneN r as1 a).c)∧Store.sub σ τ) [(6,.ptr p6 0)] t':=fun t' h1 h2=>by
  refine ⟨?_,h1⟩
  have hr:rd t' 9 (.ptr p6 0)=some (doneN r as1 a).c:=by simp only [rd,h2];rfl
  simp [Env.get,hr]
 simp only [↓vcPre,↓z0,↓reduceIte,vcPost,vcStd,Nat.reduceEqDiff,reduceCtorEq,Nat.reduceAdd,Nat.reduceLeDiff,Int.reduceLT,Int.reduceLE,↓u_setN]
 generalize ((σ.set p3 (.box r.c)).set p5 (.box a.c)).set p6 (.box zCells)=T at sT T3 T5 T6 ⊢
 simp only [T3,r6,e12,↓vcPre,↓z0,↓reduceIte,vcPost,vcStd,Nat.reduceEqDiff,reduceCtorEq,Nat.reduceAdd,Nat.reduceLeDiff,Int.reduceLT,Int.reduceLE,↓u_setN]
 have hd:doneN r as1 a=canonA (commA r (canonA (pathA r as1 (medA r (prfA r a))))):=rfl
 unfold prfA at hd
 cases h:r.sp
 ·rw [h] at hd
  simp only [Bool.false_eq_true,if_false] at hd
  simp only [↓vcPre,↓z0,↓reduceIte,vcPost,vcStd,Nat.reduceEqDiff,reduceCtorEq,Nat.reduceAdd,Nat.reduceLeDiff,Int.reduceLT,Int.reduceLE,↓u_setN]
  refine z2g a ha ha2 ha3 zCells rfl h35 h65 T3 T5 T6 sT h5 h6 _ ?_
  rw [←hd]
  exact fin
 ·rw [h] at hd
  simp only [if_true] at hd
  simp only [T3,T5,r7,e12,e9,s5,s6,h35,h53,↓vcPre,↓z0,↓reduceIte,vcPost,vcStd,Nat.reduceEqDiff,reduceCtorEq,Nat.reduceAdd,Nat.reduceLeDiff,Int.reduceLT,Int.reduceLE,↓u_setN]
  rw [hd] at fin
  have key:=fun (n rr:Env→Store→Prop) (xx:Nat→Env→Store→Prop) (E:List (Nat×AV))=>z2g (as1:=as1) (n:=n) (rr:=rr) (xx:=xx) (T:=(T.set p5 (.box ({ a with hp:=true }:At).c)).set p5 (.box ({ a with hp:=true,prf:=r.pf }:At).c)) { a with hp:=true,prf:=r.pf } ha ha2 ha3 zCells rfl h35 h65 (((Store.set_ne _ _ h35).trans (Store.set_ne _ _ h35)).trans T3) (Store.set_same _ _ _) (((Store.set_ne _ _ h65).trans (Store.set_ne _ _ h65)).trans T6) (zb (zb sT h5) h5) h5 h6 E
  rw [hd]
  exact ⟨key _ _ _ [] fin,key _ _ _ [] fin⟩
end Go.Am
