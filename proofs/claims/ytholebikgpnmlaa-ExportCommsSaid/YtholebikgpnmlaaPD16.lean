/- A part of the proof: a logic for calls over plain values, and the functions that the law reaches, each walked once. -/
import Derived.Test.YtholebikgpnmlaaPD15
set_option linter.unusedVariables false
set_option linter.unusedSimpArgs false
set_option linter.unusedSectionVars false
namespace Go.Am
open Go.Proofs Go.Sort
theorem vw {α:Type} {o:Option α} {b:α} {f:α→Prop} (h:o=some b) (hf:f b):wit o f:=by rw [h,ye];exact hf
section
variable {σ:Store} {n rr:Env→Store→Prop} {xx:Nat→Env→Store→Prop}
set_option maxHeartbeats 1000000 in
set_option maxRecDepth 20000 in
theorem z5m {W:Store} {p1 h:Nat} (hs:Store.sub σ W) (W1:W p1=some (.box (cfg1.cV (.os h 4 0 4)))) (Wh:W h=some (.arr 4 (cfg1.ps.map Peer.c))) (hfin:∀ t,Store.sub σ t→rr [(0,.bool true)] t):bwp Try.prog Ts30.t39_18 [(1,.ptr p1 0)] W n rr xx:=by
 simp only [Ts30.t39_18,xg]
 simp only [↓vcPre,↓z0,↓reduceIte,vcPost,vcStd,Nat.reduceEqDiff,reduceCtorEq,Nat.reduceAdd,Nat.reduceLeDiff,Int.reduceLT,Int.reduceLE,↓u_setN]
 have h0:=c25 zeroAt (by unfold I64 zeroAt;decide) 65001 W
 have hk:ACalls Try.prog 25 [.agg zCells,.int .u32 65001] W _:=ACalls.weakArgs h0.1 (WeakL.pos 0 rfl (z0g (WeakL.pure h0)))
 refine hk.Q ?_
 rintro r W ⟨rfl,rfl⟩
 have e9:∀ y:At,y.c.length=9:=fun _=>rfl
 have t9:∀ y:At,List.take 9 y.c=y.c:=fun _=>rfl
 have hz:∀ y:At,splice 0 y.c zCells=some y.c:=fun _=>rfl
 have c7:(cfg1.cV (.os h 4 0 4)).length=7:=rfl
 have t7:List.take 7 (cfg1.cV (.os h 4 0 4))=cfg1.cV (.os h 4 0 4):=rfl
 have b13:path1.c.length=13:=rfl
 have t13:List.take 13 path1.c=path1.c:=rfl
 have pf:AV.int .i64 0 :: .int .u32 0 :: .int .u32 0 :: .bool false::(tameA zeroAt 65001).c=path1.c:=rfl
 have f1:List.take 1 (List.drop 1 (cfg1.cV (.os h 4 0 4)))=[.int .u32 16843009]:=rfl
 simp only [e9,hz,pf,↓vcPre,↓z0,↓reduceIte,vcPost,vcStd,Nat.reduceEqDiff,reduceCtorEq,Nat.reduceAdd,Nat.reduceLeDiff,Int.reduceLT,Int.reduceLE,↓u_setN]
 refine AllocQ.i0 fun p2 h2 => ?_
 simp only [↓vcPre,↓z0,↓reduceIte,vcPost,vcStd,Nat.reduceEqDiff,reduceCtorEq,Nat.reduceAdd,Nat.reduceLeDiff,Int.reduceLT,Int.reduceLE,↓u_setN]
 refine ⟨b13,?_⟩
 rw [show splice 0 path1.c (AV.int .i64 0::AV.int .u32 0::AV.int .u32 0::AV.bool false::zCells)=some path1.c from rfl,ye]
 have n12:¬ p1=p2:=fun e=>by subst e;rw [W1] at h2;cases h2
 have sU:Store.sub W ((W.set p2 (.box (AV.int .i64 0::AV.int .u32 0::AV.int .u32 0::AV.bool false::zCells))).set p2 (.box path1.c)):=zb (Store.sub_set _ _ _ h2) h2
 have U2:=Store.set_same (W.set p2 (.box (AV.int .i64 0::AV.int .u32 0::AV.int .u32 0::AV.bool false::zCells))) p2 (.box path1.c)
 generalize (W.set p2 (.box (AV.int .i64 0::AV.int .u32 0::AV.int .u32 0::AV.bool false::zCells))).set p2 (.box path1.c)=U at sU U2 ⊢
 have U1:=sU _ _ W1
 have Uh:=sU _ _ Wh
 have sσU:=Store.sub_trans hs sU
 clear W1 Wh h0 hk hs sU
 have hr:=Rd.os (esz:=4) Uh
 have told:∀ (t:Store) (k:Int),Store.sub U t→ACalls Try.prog 38 [.agg (cfg1.cV (.os h 4 0 4)),.int .i64 k,.agg [.int .u32 0,.int .i64 0],.agg path1.c] t (fun r s=>s=t∧r = .tup [.agg (toldA cfg1 k (0,0) path1).1.c,.bool (toldA cfg1 k (0,0) path1).2]):=fun t k ht =>
  s38 cfg1 kept_cfg1.fit k (0,0) path1 (uv zeroAt 65001 (by decide)).aok (hr.mono ht)
 simp only [U1,U2,c7,t7,b13,t13,↓vcPre,↓z0,↓reduceIte,vcPost,vcStd,Nat.reduceEqDiff,reduceCtorEq,Nat.reduceAdd,Nat.reduceLeDiff,Int.reduceLT,Int.reduceLE,↓u_setN]
 refine (told U 1 (Store.sub_refl _)).Q ?_
 rw [zcr]
 rintro r U' ⟨rfl,rfl⟩
 generalize hX:(⟨0,[⟨2,[65000,65001]⟩],16843009,false,0,false,0,false,[]⟩:At)=X
 have X1:List.take 1 (List.drop 1 X.c)=[.sl 2 [[.int .i64 2,.sl 1 [[.int .u32 65000],[.int .u32 65001]]]]]:=by rw [←hX];rfl
 have X2:List.take 1 (List.drop 2 X.c)=[.int .u32 16843009]:=by rw [←hX];rfl
 clear hX
 simp only [e9,t9,hz,↓vcPre,↓z0,↓reduceIte,vcPost,vcStd,Nat.reduceEqDiff,reduceCtorEq,Nat.reduceAdd,Nat.reduceLeDiff,Int.reduceLT,Int.reduceLE,↓u_setN]
 refine AllocQ.i0 fun p3 h3 => ?_
 simp only [hz,e9,↓vcPre,↓z0,↓reduceIte,vcPost,vcStd,Nat.reduceEqDiff,reduceCtorEq,Nat.reduceAdd,Nat.reduceLeDiff,Int.reduceLT,Int.reduceLE,↓u_setN]
 have n13:¬ p1=p3:=fun e=>by subst e;rw [U1] at h3;cases h3
 have sV:Store.sub U' ((U'.set p3 (.box zCells)).set p3 (.box X.c)):=zb (Store.sub_set _ _ _ h3) h3
 have V3:=Store.set_same (U'.set p3 (.box zCells)) p3 (.box X.c)
 generalize (U'.set p3 (.box zCells)).set p3 (.box X.c)=V at sV V3 ⊢
 have V1:=sV _ _ U1
 have V2:=sV _ _ U2
 have sσV:=Store.sub_trans sσU sV
 simp only [V1,V2,c7,t7,b13,t13,↓vcPre,↓z0,↓reduceIte,vcPost,vcStd,Nat.reduceEqDiff,reduceCtorEq,Nat.reduceAdd,Nat.reduceLeDiff,Int.reduceLT,Int.reduceLE,↓u_setN]
 refine (told V 0 sV).Q ?_
 rw [zcq]
 rintro r V' ⟨rfl,rfl⟩
 have zt:∀ w:List AV,w=zCells→splice 0 zeroAt.c w=some zeroAt.c:=fun w e=>by subst e;rfl
 simp only [e9,t9,hz,↓vcPre,↓z0,↓reduceIte,vcPost,vcStd,Nat.reduceEqDiff,reduceCtorEq,Nat.reduceAdd,Nat.reduceLeDiff,Int.reduceLT,Int.reduceLE,↓u_setN]
 refine AllocQ.i0 fun p5 h5 => ?_
 simp only [hz,e9,↓vcPre,↓z0,↓reduceIte,vcPost,vcStd,Nat.reduceEqDiff,reduceCtorEq,Nat.reduceAdd,Nat.reduceLeDiff,Int.reduceLT,Int.reduceLE,↓u_setN]
 have sY:Store.sub V' ((V'.set p5 (.box zCells)).set p5 (.box zeroAt.c)):=zb (Store.sub_set _ _ _ h5) h5
 generalize (V'.set p5 (.box zCells)).set p5 (.box zeroAt.c)=Y at sY ⊢
 have Y1:=sY _ _ V1
 have Y3:=sY _ _ V3
 simp only [Y1,Y3,X1,X2,e9,c7,f1,↓vcPre,↓z0,↓reduceIte,vcPost,vcStd,Nat.reduceEqDiff,reduceCtorEq,Nat.reduceAdd,Nat.reduceLeDiff,Int.reduceLT,Int.reduceLE,↓u_setN]
 refine ⟨fun _=>⟨by decide,by decide,vw (b := .sl 1 [[.int .u32 65000],[.int .u32 65001]]) rfl (vw (b := .ep [.int .u32 65000]) rfl ?_)⟩,fun h=>absurd rfl h⟩
 simp only [↓vcPre,↓z0,↓reduceIte,vcPost,vcStd,Nat.reduceEqDiff,reduceCtorEq,Nat.reduceAdd,Nat.reduceLeDiff,Int.reduceLT,Int.reduceLE,↓u_setN]
 exact hfin _ (Store.sub_trans sσV sY)
end
set_option maxHeartbeats 1000000 in
set_option maxRecDepth 20000 in
theorem c39:Pur Try.prog 39 [] (.bool true):=by
 refine zu Ts30.F39 (by simp [Ts30.F39,Fn.mkX]) fun σ => ?_
 simp only [Ts30.F39,Fn.mkX,Ts30.b39]
 simp only [↓vcPre,↓z0,↓reduceIte,vcPost,vcStd,Nat.reduceEqDiff,reduceCtorEq,Nat.reduceAdd,Nat.reduceLeDiff,Int.reduceLT,Int.reduceLE,↓u_setN]
 refine ⟨by decide,AllocQ.i0 fun g hg => ?_⟩
 simp only [↓vcPre,↓z0,↓reduceIte,vcPost,vcStd,Nat.reduceEqDiff,reduceCtorEq,Nat.reduceAdd,Nat.reduceLeDiff,Int.reduceLT,Int.reduceLE,↓u_setN]
 have imp:Rels ImpL (List.replicate 3 [AV.int .u32 0,.int .u32 0,.nils,.nils]) (cfg0.ps.map Peer.c):=by
  have e:ImpL [AV.int .u32 0,.int .u32 0,.nils,.nils] P0.c := .cons (.refl rfl) (.cons (.refl rfl) (.cons .nils (.cons .nils .nil)))
  exact .cons e (.cons e (.cons e .nil))
 have sU:Store.sub σ ((σ.set g (.arr 4 (List.replicate 3 [AV.int .u32 0,.int .u32 0,.nils,.nils]))).set g (.arr 4 (cfg0.ps.map Peer.c))):=zb (Store.sub_set _ _ _ hg) hg
 have hcall:=zal (σ:=(σ.set g (.arr 4 (List.replicate 3 [AV.int .u32 0,.int .u32 0,.nils,.nils]))).set g (.arr 4 (cfg0.ps.map Peer.c))) cfg0 ⟨by unfold I64 cfg0;decide,by unfold I64 cfg0;decide,by unfold Small cfg0;decide,fun p hp=>by
  have:p=P0:=by simp [cfg0] at hp;exact hp
  subst this
  exact ⟨by simp [P0],by simp [P0]⟩⟩ (lv := .os g 4 0 3) (Rd.os (Store.set_same _ _ _))
 have hcall2:=ACalls.weakArgs (σ:=σ.set g (.arr 4 (List.replicate 3 [AV.int .u32 0,.int .u32 0,.nils,.nils]))) hcall.1 (WeakL.arrImp g (Store.set_same _ _ _) imp (WeakL.pure hcall))
 generalize (σ.set g (.arr 4 (List.replicate 3 [AV.int .u32 0,.int .u32 0,.nils,.nils]))).set g (.arr 4 (cfg0.ps.map Peer.c))=U at *
 clear hcall
 refine hcall2.Q ?_
 rintro r T ⟨v,rfl,q1,q2⟩
 rw [z7w] at q2
 rcases q2 with ⟨e,_⟩ | ⟨h,rfl,hh,hT⟩
 ·simp at e
 have c7:((configK cfg0).cV (.os h 4 0 4)).length=7:=rfl
 simp only [c7,↓vcPre,↓z0,↓reduceIte,vcPost,vcStd,Nat.reduceEqDiff,reduceCtorEq,Nat.reduceAdd,Nat.reduceLeDiff,Int.reduceLT,Int.reduceLE,↓u_setN]
 refine AllocQ.i0 fun p1 h1' => ?_
 simp only [c7,↓vcPre,↓z0,↓reduceIte,vcPost,vcStd,Nat.reduceEqDiff,reduceCtorEq,Nat.reduceAdd,Nat.reduceLeDiff,Int.reduceLT,Int.reduceLE,↓u_setN]
 have n1h:¬ p1=h:=fun e=>by subst e;rw [hT] at h1';cases h1'
 have hn1:¬ h=p1:=fun e=>n1h e.symm
 have sT:=Store.sub_trans sU q1
 have hz:splice 0 ((configK cfg0).cV (.os h 4 0 4)) [AV.int .u32 0,.int .u32 0,.int .i64 0,.nils,.int .i64 0,.int .i64 0,.int .i64 0]=some ((configK cfg0).cV (.os h 4 0 4)):=rfl
 have f3:List.take 1 (List.drop 3 ((configK cfg0).cV (.os h 4 0 4)))=[.os h 4 0 4]:=rfl
 rw [hz,ye]
 have V1:=Store.set_same (T.set p1 (.box [AV.int .u32 0,.int .u32 0,.int .i64 0,.nils,.int .i64 0,.int .i64 0,.int .i64 0])) p1 (.box ((configK cfg0).cV (.os h 4 0 4)))
 have sV:Store.sub T ((T.set p1 (.box [AV.int .u32 0,.int .u32 0,.int .i64 0,.nils,.int .i64 0,.int .i64 0,.int .i64 0])).set p1 (.box ((configK cfg0).cV (.os h 4 0 4)))):=zb (Store.sub_set _ _ _ h1') h1'
 generalize (T.set p1 (.box [AV.int .u32 0,.int .u32 0,.int .i64 0,.nils,.int .i64 0,.int .i64 0,.int .i64 0])).set p1 (.box ((configK cfg0).cV (.os h 4 0 4)))=V at V1 sV ⊢
 have Vh:=sV _ _ hT
 have hσh:=zk sU hh
 have sσV:=Store.sub_trans sT sV
 have hσ1:=zk sT h1'
 clear hT hz imp hcall2
 simp only [V1,Vh,f3,c7,↓vcPre,↓z0,↓reduceIte,vcPost,vcStd,Nat.reduceEqDiff,reduceCtorEq,Nat.reduceAdd,Nat.reduceLeDiff,Int.reduceLT,Int.reduceLE,↓u_setN]
 have fin:=z5m (n:=fun e τ=>e.get 0=some (AV.bool true)∧σ.sub τ) (rr:=fun e τ=>e.get 0=some (AV.bool true)∧σ.sub τ) (xx:=fun _ _ _=>False) (W:=V.set h (.arr 4 (cfg1.ps.map Peer.c))) (p1:=p1) (h:=h) (zb sσV hσh) (by rw [Store.set_ne _ _ n1h];exact V1) (Store.set_same _ _ _) (fun t ht=>⟨rfl,ht⟩)
 refine ⟨by decide,⟨by decide,vw (b:=(⟨65001,33686017,[],[]⟩:Peer).c) rfl ⟨by decide,by decide,vw (b:=(⟨65002,33686018,[],[]⟩:Peer).c) rfl ?_⟩⟩,⟨by decide,vw (b:=(⟨65001,33686017,[],[]⟩:Peer).c) rfl ?_⟩⟩
 ·rw [Store.set_set]
  exact fin
 ·simp only [Store.set_ne _ _ n1h,V1,f3,c7,↓vcPre,↓z0,↓reduceIte,vcPost,vcStd,Nat.reduceEqDiff,reduceCtorEq,Nat.reduceAdd,Nat.reduceLeDiff,Int.reduceLT,Int.reduceLE,↓u_setN]
  refine ⟨by decide,by decide,vw (b:=(⟨65002,33686018,[],[]⟩:Peer).c) rfl ?_⟩
  rw [Store.set_set]
  exact fin
end Go.Am
namespace Go.Am.Ts27
open Go.Proofs Go.Am.B
def b10:BC:=z [⟨some 4,none,.alloc (.box),[.t 0]⟩,⟨some 6,none,.alloc (.box),[.t 2]⟩,⟨some 7,none,.alloc (.box),[.t 3]⟩,k 8 (.bool false)] [4,6,7] (z [⟨some 23,none,.load (.ld 7 true),[.t 4]⟩,g 24 37 [.t 23],⟨some 9,none,.alloc (.alloc [(.int .u32 0),(.int .u32 0),(.int .i64 0),.nils,(.int .i64 0),(.int .i64 0),(.int .i64 0)]),[]⟩,s 7 9 24] [6,7,9] (.seq (z [j 10 0] [6,7,9,10] (.block 0 (.loop [6,7,9,10] (.seq (z [m 25 10,f 26 3 9,l 27 1 26,u 28 .len 27,b 29 .lss 25 28] [6,7,9,10,29] (.cond (.t 29) .skip (.exit 0))) (.seq (.block 1 (.ops [f 32 3 9,l 33 1 32,m 34 10,x 35 4 33 34,f 36 3 35,⟨none,none,.loud (.st 1),[.t 36,.c .nils]⟩] [6,7,9,10])) (.ops [m 30 10,c 31 .add 30 1,m 10 31] [6,7,9,10])))))) (.seq (.wk 6 (.ops [f 37 0 6,l 38 1 37,f 39 1 6,l 40 1 39,g 41 24 [.t 38,.t 40],⟨some 11,none,.alloc (.alloc [(.int .u32 0),(.int .i64 0)]),[]⟩,s 2 11 41] [7,9,11])) (z [f 42 0 7,⟨none,none,.loud (.st 1),[.t 42,.c (.int .i64 (-1))]⟩] [7,9,11] (z [f 43 3 7,⟨none,none,.loud (.st 1),[.t 43,.c (.bool false)]⟩] [7,9,11] (z [f 44 4 7,⟨some 45,none,.load (.ld 9 true),[.t 44]⟩,g 46 25 [.t 45,.c (.int .u32 65001)],f 47 4 7,s 9 47 46] [7,9,11] (z [f 48 4 7,f 49 8 48,⟨none,none,.loud (.st 1),[.t 49,.c .nils]⟩] [7,9,11] (.seq (.seq (.wk 11 (.ops [j 12 0] [7,9,11,12])) (.block 2 (.loop [7,9,11,12] (.seq (z [m 50 12,f 51 3 9,l 52 1 51,u 53 .len 52,b 54 .lss 50 53] [7,9,11,12,54] (.cond (.t 54) .skip (.exit 2))) (.seq (.block 3 (z [f 57 3 9,m 59 12,f 63 0 9,l 58 1 57,x 60 4 58 59,f 61 0 60,l 62 1 61,l 64 1 63,b 65 .eql 62 64,m 13 65] [7,9,11,12,13] (z [⟨some 67,none,.load (.ld 7 true),[.t 9]⟩,m 68 12,⟨some 69,none,.load (.ld 2 true),[.t 11]⟩,⟨some 70,none,.load (.ld 13 true),[.t 7]⟩,g 71 38 [.t 67,.t 68,.t 69,.t 70],m 66 71,e 72 0 66,e 73 1 66,⟨some 14,none,.alloc (.alloc [(.int .i64 0),.nils,(.int .u32 0),(.bool false),(.int .u32 0),(.bool false),(.int .u32 0),(.bool false),.nils]),[]⟩,s 9 14 72,m 15 73] [7,9,11,12,13,15] (z [⟨some 74,none,.load (.ld 13 true),[.t 7]⟩,⟨some 16,none,.alloc (.alloc [(.int .i64 0),(.int .u32 0),(.int .u32 0),(.bool false),(.int .i64 0),.nils,(.int .u32 0),(.bool false),(.int .u32 0),(.bool false),(.int .u32 0),(.bool false),.nils]),[]⟩,s 13 16 74] [7,9,11,12,13,15,16] (z [⟨some 75,none,.alloc (.mksl 1 1),[.c (.int .u32 4294967041)]⟩,f 76 4 16,f 77 8 76,s 1 77 75] [7,9,11,12,13,15,16] (.seq (.wk 18 (.ops [⟨some 79,none,.load (.ld 7 true),[.t 9]⟩,m 80 12,⟨some 81,none,.load (.ld 2 true),[.t 11]⟩,⟨some 82,none,.load (.ld 13 true),[.t 16]⟩,g 83 38 [.t 79,.t 80,.t 81,.t 82],m 78 83,e 84 0 78,e 85 1 78,⟨some 17,none,.alloc (.alloc [(.int .i64 0),.nils,(.int .u32 0),(.bool false),(.int .u32 0),(.bool false),(.int .u32 0),(.bool false),.nils]),[]⟩,s 9 17 84,m 18 85] [7,9,11,12,13,15,16,18])) (z [⟨some 86,none,.alloc (.mksl 1 2),[.c (.int .u32 5),.c (.int .u32 4294967042)]⟩,f 87 4 16,f 88 8 87,s 1 88 86] [7,9,11,12,13,15,16,18] (.seq (.wk 20 (.ops [⟨some 90,none,.load (.ld 7 true),[.t 9]⟩,m 91 12,⟨some 92,none,.load (.ld 2 true),[.t 11]⟩,⟨some 93,none,.load (.ld 13 true),[.t 16]⟩,g 94 38 [.t 90,.t 91,.t 92,.t 93],m 89 94,e 95 0 89,e 96 1 89,⟨some 19,none,.alloc (.alloc [(.int .i64 0),.nils,(.int .u32 0),(.bool false),(.int .u32 0),(.bool false),(.int .u32 0),(.bool false),.nils]),[]⟩,s 9 19 95,m 20 96] [7,9,11,12,13,15,18,20])) (z [m 97 15,u 98 .not 97,m 99 98,⟨some 100,some (99,false),.pure (.mov),[.t 18]⟩,⟨some 101,some (99,false),.pure (.mov),[.t 13]⟩,⟨some 102,some (99,false),.pure (.eqb true),[.t 100,.t 101]⟩,⟨some 103,none,.pick,[.t 99,.c (.bool true),.t 102]⟩,m 104 103,⟨some 105,some (104,false),.pure (.mov),[.t 20]⟩,⟨some 106,none,.pick,[.t 104,.c (.bool true),.t 105]⟩] [7,9,11,12,106] (.cond (.t 106) (z [k 8 (.bool false)] [8] .ret) .skip)))))))))) (.ops [m 55 12,c 56 .add 55 1,m 12 56] [7,9,11,12])))))) (z [⟨some 108,none,.load (.ld 7 true),[.t 9]⟩,f 109 3 9,l 110 1 109,u 111 .len 110,⟨some 112,none,.load (.ld 2 true),[.t 11]⟩,⟨some 113,none,.load (.ld 13 true),[.t 7]⟩,g 114 38 [.t 108,.t 111,.t 112,.t 113],m 107 114,e 115 0 107,e 116 1 107,⟨some 21,none,.alloc (.alloc [(.int .i64 0),.nils,(.int .u32 0),(.bool false),(.int .u32 0),(.bool false),(.int .u32 0),(.bool false),.nils]),[]⟩,s 9 21 115,m 22 116] [22] (z [m 117 22,u 118 .not 117,m 119 118,⟨some 120,some (119,true),.loud (.call 39),[]⟩,⟨some 121,none,.pick,[.t 119,.t 120,.c (.bool false)]⟩,m 8 121] [8] .ret))))))))))
def F10:Fn Try.prog 10:=Fn.mkW false [6,11,18,20] b10 [.t 8] 122 Try.f10 _ Try.func10 (by decide) rfl Try.ntmps10 (by kernel_rfl) (by kernel_rfl)
end Go.Am.Ts27
namespace Go.Am
open Go.Proofs Go.Sort
def Peer.cN (p:Peer):List AV:=[.int .u32 p.asn,.int .u32 p.ad,.sl 12 (p.inn.map Rule.c),.nils]
def PathR.cO (b:PathR) (v:AV):List AV := .int .i64 b.peer :: .int .u32 b.id :: .int .u32 b.addr :: .bool b.inr::b.a.cO v
def openL (ps:List Peer) (k:Nat):List (List AV):=ps.mapIdx fun i p=>if i<k then p.cN else p.c
theorem z5a (ps:List Peer) (k:Nat):(openL ps k).length=ps.length:=by simp [openL]
theorem z45 (ps:List Peer):openL ps 0=ps.map Peer.c:=by
 apply List.ext_getElem
 ·simp [openL]
 ·intro i h1 h2;simp [openL]
theorem z59 (ps:List Peer) (k:Nat) (hk:k<ps.length) (h:k<(openL ps k).length):(openL ps k)[k]=ps[k].c:=by simp [openL]
theorem z5b (ps:List Peer) (k:Nat) (hk:k<ps.length):(openL ps k).set k ps[k].cN=openL ps (k+1):=by
 apply List.ext_getElem
 ·simp [openL]
 ·intro i h1 h2
  rw [List.getElem_set]
  split
  ·rename_i e;subst e;simp [openL]
  ·rename_i e
   simp only [openL,List.getElem_mapIdx]
   by_cases h3:i<k
   ·rw [if_pos h3,if_pos (by omega)]
   ·rw [if_neg h3,if_neg (by omega)]
theorem z28 {α β:Type} {R:α→β→Prop}:∀ {l:List α} {l':List β},l.length=l'.length→(∀ i (h:i<l.length) (h':i<l'.length),R l[i] l'[i])→Rels R l l'
 | [],[],_,_ => .nil
 | [],_::_,h,_=>by simp at h
 | _::_,[],h,_=>by simp at h
 | a::l,b::l',h,hr => .cons (hr 0 (by simp) (by simp)) (z28 (by simpa using h) fun i h1 h2=>by have:=hr (i+1) (by simpa using h1) (by simpa using h2);simpa using this)
theorem z58 (ps:List Peer):Rels ImpL (openL ps ps.length) ((ps.map Peer.open).map Peer.c):=by
 refine z28 (by simp [openL]) fun i h1 h2 => ?_
 have hi:i<ps.length:=by simpa [openL] using h1
 simp only [openL,List.getElem_mapIdx,if_pos hi,List.getElem_map]
 exact .cons (.refl rfl) (.cons (.refl rfl) (.cons (.refl (by simp [AV.flat])) (.cons .nils .nil)))
theorem WeakE.frzCms {e:Env} {σ:Store} {Q:Env→Store→Prop} {β:PathR} {L:List Int} {p id:Nat} (hp:σ p=some (.box (β.cO (.os id 1 0 L.length)))) (hid:σ id=some (.arr 1 (L.map cU)))
 (h:∀ Y:Store,Y p=some (.box ({ β with a:={ β.a with cms:=L } }:PathR).c)→(∀ q o,¬ q=p→¬ q=id→σ q=some o→Y q=some o)→Q e Y):WeakE e σ Q:=by
 refine WeakE.frzBox p 12 hp rfl hid (by simp) (WeakE.pure (h _ ?_ fun q o h1 h2 h3 => ?_))
 ·rw [Store.set_same]
  have:(List.take L.length (List.drop 0 (L.map cU)))=L.map cU:=by rw [List.drop_zero,List.take_of_length_le (by simp)]
  rw [this];rfl
 ·rw [Store.set_ne _ _ h1,Store.del_ne _ h2];exact h3
theorem zei {σ:Store} (c:Cfg) (hc:c.Ok) {lv:AV} (hr:Rd 4 σ (c.ps.map Peer.c) lv) :
 ACalls Try.prog 37 [.agg (c.cV lv)] σ (fun r s=>∃ g,r = .agg ((configK c).cV (.os g 4 0 (configK c).ps.length))∧Store.sub σ s∧σ g=none∧s g=some (.arr 4 ((configK c).ps.map Peer.c))) :=
 (zal c hc hr).mono (by
   rintro r s ⟨v,rfl,h1,h2⟩
   rcases h2 with ⟨e,_⟩ | ⟨g,rfl,h3,h4⟩
   ·have:=(v9 c).len
    have e2:=congrArg List.length e
    rw [List.length_map,List.length_nil] at e2
    omega
   ·exact ⟨g,by rw [List.length_map],h1,h3,h4⟩)
set_option maxHeartbeats 1000000 in
set_option maxRecDepth 20000 in
theorem z6r (c:Cfg) (hc:c.Ok) (k x n:Int) (hn:I64 n) (b:PathR) (ho:I64 b.a.org) (hna:0≤b.a.nxt):Pur Try.prog 10 [.agg (c.cV (.sl 4 (c.ps.map Peer.c))),.int .i64 k,.agg [.int .u32 x,.int .i64 n],.agg b.c] (.bool true):=by
 refine zu Ts27.F10 (by simp [Ts27.F10,Fn.mkW]) fun σ => ?_
 simp only [Ts27.F10,Fn.mkW,Ts27.b10,xg]
 have c7:∀ (c:Cfg) v,(c.cV v).length=7:=fun _ _=>rfl
 have t7:∀ (c:Cfg) v,List.take 7 (c.cV v)=c.cV v:=fun _ _=>rfl
 have f3:∀ (c:Cfg) v,List.take 1 (List.drop 3 (c.cV v))=[v]:=fun _ _=>rfl
 simp only [↓vcPre,↓z0,↓reduceIte,vcPost,vcStd,Nat.reduceEqDiff,reduceCtorEq,Nat.reduceAdd,Nat.reduceLeDiff,Int.reduceLT,Int.reduceLE,↓u_setN]
 refine AllocQ.i0 fun p4 h4 => ?_
 simp only [↓vcPre,↓z0,↓reduceIte,vcPost,vcStd,Nat.reduceEqDiff,reduceCtorEq,Nat.reduceAdd,Nat.reduceLeDiff,Int.reduceLT,Int.reduceLE,↓u_setN]
 refine AllocQ.i1 fun p6 h64 h46 h6 => ?_
 simp only [↓vcPre,↓z0,↓reduceIte,vcPost,vcStd,Nat.reduceEqDiff,reduceCtorEq,Nat.reduceAdd,Nat.reduceLeDiff,Int.reduceLT,Int.reduceLE,↓u_setN]
 refine AllocQ.i2 fun p7 h74 h47 h76 h67 h7 => ?_
 simp only [↓vcPre,↓z0,↓reduceIte,vcPost,vcStd,Nat.reduceEqDiff,reduceCtorEq,Nat.reduceAdd,Nat.reduceLeDiff,Int.reduceLT,Int.reduceLE,↓u_setN]
 have sT:Store.sub σ (((σ.set p4 (.box (c.cV (.sl 4 (c.ps.map Peer.c))))).set p6 (.box [.int .u32 x,.int .i64 n])).set p7 (.box b.c)):=zb (zq h4 h6 h64) h7
 have T7:=Store.set_same ((σ.set p4 (.box (c.cV (.sl 4 (c.ps.map Peer.c))))).set p6 (.box [.int .u32 x,.int .i64 n])) p7 (.box b.c)
 have T6:(((σ.set p4 (.box (c.cV (.sl 4 (c.ps.map Peer.c))))).set p6 (.box [.int .u32 x,.int .i64 n])).set p7 (.box b.c)) p6=some (.box [.int .u32 x,.int .i64 n]):=by rw [Store.set_ne _ _ h67];exact Store.set_same _ _ _
 have T4:(((σ.set p4 (.box (c.cV (.sl 4 (c.ps.map Peer.c))))).set p6 (.box [.int .u32 x,.int .i64 n])).set p7 (.box b.c)) p4=some (.box (c.cV (.sl 4 (c.ps.map Peer.c)))):=by rw [Store.set_ne _ _ h47,Store.set_ne _ _ h46];exact Store.set_same _ _ _
 generalize ((σ.set p4 (.box (c.cV (.sl 4 (c.ps.map Peer.c))))).set p6 (.box [.int .u32 x,.int .i64 n])).set p7 (.box b.c)=T at sT T4 T6 T7 ⊢
 simp only [T4,c7,t7,↓vcPre,↓z0,↓reduceIte,vcPost,vcStd,Nat.reduceEqDiff,reduceCtorEq,Nat.reduceAdd,Nat.reduceLeDiff,Int.reduceLT,Int.reduceLE,↓u_setN]
 refine (zei (σ:=T) c hc Rd.sl).Q ?_
 rintro r U ⟨g,rfl,sU,hTg,Ug⟩
 have hK:=v9 c
 have U6:=sU _ _ T6
 have U7:=sU _ _ T7
 have hσg:=zk sT hTg
 have sσU:=Store.sub_trans sT sU
 clear T4 T6 T7 sT sU hTg
 simp only [c7,↓vcPre,↓z0,↓reduceIte,vcPost,vcStd,Nat.reduceEqDiff,reduceCtorEq,Nat.reduceAdd,Nat.reduceLeDiff,Int.reduceLT,Int.reduceLE,↓u_setN]
 refine AllocQ.i0 fun p9 h9 => ?_
 have zK:∀ v,splice 0 ((configK c).cV v) [AV.int .u32 0,.int .u32 0,.int .i64 0,.nils,.int .i64 0,.int .i64 0,.int .i64 0]=some ((configK c).cV v):=fun _=>rfl
 have hσ9:=zk sσU h9
 have n69:¬ p6=p9:=fun e=>by subst e;rw [U6] at h9;cases h9
 have n79:¬ p7=p9:=fun e=>by subst e;rw [U7] at h9;cases h9
 have n9g:¬ p9=g:=fun e=>by subst e;rw [Ug] at h9;cases h9
 have ng9:¬ g=p9:=fun e=>n9g e.symm
 simp only [c7,zK,↓vcPre,↓z0,↓reduceIte,vcPost,vcStd,Nat.reduceEqDiff,reduceCtorEq,Nat.reduceAdd,Nat.reduceLeDiff,Int.reduceLT,Int.reduceLE,↓u_setN]
 have V9:=Store.set_same (U.set p9 (.box [AV.int .u32 0,.int .u32 0,.int .i64 0,.nils,.int .i64 0,.int .i64 0,.int .i64 0])) p9 (.box ((configK c).cV (.os g 4 0 (configK c).ps.length)))
 have sV:Store.sub U ((U.set p9 (.box [AV.int .u32 0,.int .u32 0,.int .i64 0,.nils,.int .i64 0,.int .i64 0,.int .i64 0])).set p9 (.box ((configK c).cV (.os g 4 0 (configK c).ps.length)))):=zb (Store.sub_set _ _ _ h9) h9
 generalize (U.set p9 (.box [AV.int .u32 0,.int .u32 0,.int .i64 0,.nils,.int .i64 0,.int .i64 0,.int .i64 0])).set p9 (.box ((configK c).cV (.os g 4 0 (configK c).ps.length)))=V at sV V9 ⊢
 have V6:=sV _ _ U6
 have V7:=sV _ _ U7
 have Vg:=sV _ _ Ug
 have sσV:=Store.sub_trans sσU sV
 clear U6 U7 Ug sV sσU h9 zK
 generalize hd:configK c=d at *
 have hl:=hK.len
 have wN:∀ p:Peer,splice 3 [.nils] p.c=some p.cN:=fun _=>rfl
 refine LoopQ.inv (S:=Nat×Store) (fun q=>[(6,.ptr p6 0),(7,.ptr p7 0),(9,.ptr p9 0),(10,.int .i64 (q.1:Int))]) (fun q=>q.2)
  (fun q=>q.1≤d.ps.length∧Store.sub σ q.2∧q.2 p6=some (.box [.int .u32 x,.int .i64 n])∧q.2 p7=some (.box b.c)∧q.2 p9=some (.box (d.cV (.os g 4 0 d.ps.length)))∧q.2 g=some (.arr 4 (openL d.ps q.1)))
  (fun q=>d.ps.length+1 - q.1) (0,V) rfl (Store.sub_refl _) ⟨Nat.zero_le _,sσV,V6,V7,V9,by rw [z45];exact Vg⟩ ?_
 clear V6 V7 V9 Vg sσV
 rintro ⟨j,s⟩ ⟨hj,hs,s6,s7,s9,sg⟩
 simp only at hj hs s6 s7 s9 sg
 have ol:=z5a d.ps j
 simp only [s9,c7,f3,sg,ol,↓vcPre,↓z0,↓reduceIte,vcPost,vcStd,Nat.reduceEqDiff,reduceCtorEq,Nat.reduceAdd,Nat.reduceLeDiff,Int.reduceLT,Int.reduceLE,↓u_setN]
 have n6g:¬ p6=g:=fun e=>by subst e;rw [s6] at sg;cases sg
 have n7g:¬ p7=g:=fun e=>by subst e;rw [s7] at sg;cases sg
 have n9g:¬ p9=g:=fun e=>by subst e;rw [s9] at sg;cases sg
 refine ⟨fun c1 => ?_,fun c1 => ?_⟩
 ·have hj':j<d.ps.length:=by omega
  have ej:IntKind.i64.wrap ((j:Int)+1)=((j+1:Nat):Int):=by rw [zj (by unfold I64;omega)];omega
  refine ⟨hj',by simpa using by omega,?_⟩
  have e0:0+j=j:=by omega
  simp only [e0]
  rw [z59 d.ps j hj',wN,ye,z5b d.ps j hj',ej]
  refine NextQ.to (j+1,s.set g (.arr 4 (openL d.ps (j+1)))) rfl (Store.sub_refl _) (by simp only;omega) ⟨hj',zb hs hσg,?_,?_,?_,Store.set_same _ _ _⟩
  ·exact (Store.set_ne _ _ n6g).trans s6
  ·exact (Store.set_ne _ _ n7g).trans s7
  ·exact (Store.set_ne _ _ n9g).trans s9
 ·have ej:j=d.ps.length:=by omega
  subst ej
  have hc2:openK c={ d with ps:=d.ps.map Peer.open }:=by rw [←hd];rfl
  refine WkQ.of (WeakE.arrImp g sg (z58 d.ps) (WeakE.pure ?_))
  have hKo:=z54 c
  have oo:=z6u c
  have ecv:∀ v,d.cV v=(openK c).cV v:=fun v=>by rw [hc2];rfl
  have eps:(openK c).ps=d.ps.map Peer.open:=by rw [hc2]
  have elen:d.ps.length=(openK c).ps.length:=by rw [eps,List.length_map]
  have T6:=(Store.set_ne s (.arr 4 ((d.ps.map Peer.open).map Peer.c)) n6g).trans s6
  have T7:=(Store.set_ne s (.arr 4 ((d.ps.map Peer.open).map Peer.c)) n7g).trans s7
  have T9:=(Store.set_ne s (.arr 4 ((d.ps.map Peer.open).map Peer.c)) n9g).trans s9
  have Tg:=Store.set_same s g (.arr 4 ((d.ps.map Peer.open).map Peer.c))
  have sT:Store.sub σ (s.set g (.arr 4 ((d.ps.map Peer.open).map Peer.c))):=zb hs hσg
  rw [ecv,elen] at T9
  rw [←eps] at *
  generalize s.set g (.arr 4 ((openK c).ps.map Peer.c))=T at T6 T7 T9 Tg sT ⊢
  clear s6 s7 s9 sg hs
  generalize openK c=e at *
  clear hd hc2 ecv elen eps hK hl wN ol c1 hj
  have c13:∀ b:PathR,b.c.length=13:=fun _=>rfl
  have t13:∀ b:PathR,List.take 13 b.c=b.c:=fun _=>rfl
  have b9:∀ b:PathR,List.take 9 (List.drop 4 b.c)=b.a.c:=fun _=>rfl
  have w0:∀ (b:PathR) z,splice 0 [.int .i64 z] b.c=some ({ b with peer:=z }:PathR).c:=fun _ _=>rfl
  have w3:∀ (b:PathR) z,splice 3 [.bool z] b.c=some ({ b with inr:=z }:PathR).c:=fun _ _=>rfl
  have w4:∀ (b:PathR) (a:At),splice 4 a.c b.c=some ({ b with a:=a }:PathR).c:=fun _ _=>rfl
  have w12:∀ (b:PathR) v,splice 12 [v] b.c=some (b.cO v):=fun _ _=>rfl
  have v12:∀ (b:PathR) v v',splice 12 [v] (b.cO v')=some (b.cO v):=fun _ _ _=>rfl
  have cO13:∀ (b:PathR) v,(b.cO v).length=13:=fun _ _=>rfl
  have q2:∀ q:Int×Int,splice 0 [AV.int .u32 q.1,.int .i64 q.2] [AV.int .u32 0,.int .i64 0]=some [AV.int .u32 q.1,.int .i64 q.2]:=fun _=>rfl
  simp only [T6,↓vcPre,↓z0,↓reduceIte,vcPost,vcStd,Nat.reduceEqDiff,reduceCtorEq,Nat.reduceAdd,Nat.reduceLeDiff,Int.reduceLT,Int.reduceLE,↓u_setN]
  refine (c24 x n hn).Q ?_
  simp only [↓vcPre,↓z0,↓reduceIte,vcPost,vcStd,Nat.reduceEqDiff,reduceCtorEq,Nat.reduceAdd,Nat.reduceLeDiff,Int.reduceLT,Int.reduceLE,↓u_setN]
  refine AllocQ.i0 fun p11 h11 => ?_
  have n7:¬ p7=p11:=fun e=>by subst e;rw [T7] at h11;cases h11
  have n9:¬ p9=p11:=fun e=>by subst e;rw [T9] at h11;cases h11
  have ng:¬ g=p11:=fun e=>by subst e;rw [Tg] at h11;cases h11
  have hσ11:=zk sT h11
  simp only [q2,T7,n7,c13,w0,w3,↓vcPre,↓z0,↓reduceIte,vcPost,vcStd,Nat.reduceEqDiff,reduceCtorEq,Nat.reduceAdd,Nat.reduceLeDiff,Int.reduceLT,Int.reduceLE,↓u_setN]
  rw [b9]
  refine (c25 b.a ho 65001).Q ?_
  generalize htm:tameA b.a 65001=tm
  have te:Easy tm:=by rw [←htm];exact uv b.a 65001 hna
  have tl:∀ ls,tm.path=[⟨2,ls⟩]→ls.length≤9:=fun ls e=>by
   obtain ⟨l2,h1,_,h3⟩:=z19 b.a 65001
   rw [htm,e] at h1
   simp only [List.cons.injEq,Seg.mk.injEq,true_and,and_true] at h1
   subst h1;omega
  clear htm
  have e9:∀ y:At,y.c.length=9:=fun _=>rfl
  simp only [c13,w4,w12,e9,↓vcPre,↓z0,↓reduceIte,vcPost,vcStd,Nat.reduceEqDiff,reduceCtorEq,Nat.reduceAdd,Nat.reduceLeDiff,Int.reduceLT,Int.reduceLE,↓u_setN]
  simp only [Store.set_set]
  refine WkQ.of (WeakE.boxImp p7 (Store.set_same _ _ _) (cs':=(⟨-1,b.id,b.addr,false,{ tm with cms:=[] }⟩:PathR).c) (.cons (.refl rfl) (.cons (.refl rfl) (.cons (.refl rfl) (.cons (.refl rfl) (.cons (.refl rfl) (.cons (.refl (by simp [AV.flat])) (.cons (.refl rfl) (.cons (.refl rfl) (.cons (.refl rfl) (.cons (.refl rfl) (.cons (.refl rfl) (.cons (.refl rfl) (.cons .nils .nil))))))))))))) (WeakE.pure ?_))
  rw [Store.set_set]
  have hq:rightF (prefixF x n).1 (prefixF x n).2=true:=z0a _ _
  generalize prefixF x n=q at hq ⊢
  have hσ7:=h7
  have n117:¬ p11=p7:=fun e=>n7 e.symm
  have n97:¬ p9=p7:=fun e=>n79 e.symm
  have ng7:¬ g=p7:=fun e=>n7g e.symm
  have V7:=Store.set_same (T.set p11 (.box [.int .u32 q.1,.int .i64 q.2])) p7 (.box (⟨-1,b.id,b.addr,false,{ tm with cms:=[] }⟩:PathR).c)
  have V11:((T.set p11 (.box [.int .u32 q.1,.int .i64 q.2])).set p7 (.box (⟨-1,b.id,b.addr,false,{ tm with cms:=[] }⟩:PathR).c)) p11=some (.box [.int .u32 q.1,.int .i64 q.2]):=by rw [Store.set_ne _ _ n117,Store.set_same]
  have V9:((T.set p11 (.box [.int .u32 q.1,.int .i64 q.2])).set p7 (.box (⟨-1,b.id,b.addr,false,{ tm with cms:=[] }⟩:PathR).c)) p9=some (.box (e.cV (.os g 4 0 e.ps.length))):=by rw [Store.set_ne _ _ n97,Store.set_ne _ _ n9];exact T9
  have Vg:((T.set p11 (.box [.int .u32 q.1,.int .i64 q.2])).set p7 (.box (⟨-1,b.id,b.addr,false,{ tm with cms:=[] }⟩:PathR).c)) g=some (.arr 4 (e.ps.map Peer.c)):=by rw [Store.set_ne _ _ ng7,Store.set_ne _ _ ng];exact Tg
  have sV:Store.sub σ ((T.set p11 (.box [.int .u32 q.1,.int .i64 q.2])).set p7 (.box (⟨-1,b.id,b.addr,false,{ tm with cms:=[] }⟩:PathR).c)):=zb (zb sT hσ11) hσ7
  generalize (T.set p11 (.box [.int .u32 q.1,.int .i64 q.2])).set p7 (.box (⟨-1,b.id,b.addr,false,{ tm with cms:=[] }⟩:PathR).c)=V at V7 V9 V11 Vg sV ⊢
  clear T6 T7 T9 Tg sT h11 w0 w3 w4
  have eL:∀ L:List Int,Inc L→L.length≤10→Easy ({ tm with cms:=L }:At):=fun L h1 h2=>⟨te.org,te.path,te.nxt,te.med,te.prf,h2,h1⟩
  have tld:∀ (L:List Int),Inc L→L.length≤10→∀ (t:Store),t g=some (.arr 4 (e.ps.map Peer.c))→∀ j:Nat,ACalls Try.prog 38 [.agg (e.cV (.os g 4 0 e.ps.length)),.int .i64 (j:Int),.agg [.int .u32 q.1,.int .i64 q.2],.agg (⟨-1,b.id,b.addr,false,{ tm with cms:=L }⟩:PathR).c] t (fun r s=>s=t∧r = .tup [.agg (toldA e j q ⟨-1,b.id,b.addr,false,{ tm with cms:=L }⟩).1.c,.bool (toldA e j q ⟨-1,b.id,b.addr,false,{ tm with cms:=L }⟩).2]):=fun L h1 h2 t ht j=>by
   have hr:=Rd.os ht
   rw [List.length_map] at hr
   exact s38 e hKo.fit j q ⟨-1,b.id,b.addr,false,{ tm with cms:=L }⟩ (eL L h1 h2).aok hr
  have tA:∀ (L:List Int),Inc L→L.length≤10→∀ j (hj:j<e.ps.length),(toldA e j q ⟨-1,b.id,b.addr,false,{ tm with cms:=L }⟩).2 = !(decide ((4294967042:Int) ∈ L) || (decide ((4294967041:Int) ∈ L) && !innerA e e.ps[j])):=fun L h1 h2 j hj=>by
   cases hh:hiddenA e j e.ps[j] ⟨-1,b.id,b.addr,false,{ tm with cms:=L }⟩
   ·rw [z1a hj hKo.chk hq (eL L h1 h2) tl hKo.good (oo j hj) hh]
    unfold hiddenA at hh
    simp only [Bool.or_eq_false_iff] at hh
    rw [hh.2.2.1,hh.2.2.2];rfl
   ·rw [z2l hj hh]
    unfold hiddenA at hh
    have:decide ((-1:Int)=(j:Int))=false:=decide_eq_false (by omega)
    simp only [this,Bool.false_or,Bool.false_and] at hh
    rw [hh];rfl
  simp only [↓vcPre,↓z0,↓reduceIte,vcPost,vcStd,Nat.reduceEqDiff,reduceCtorEq,Nat.reduceAdd,Nat.reduceLeDiff,Int.reduceLT,Int.reduceLE,↓u_setN]
  refine LoopQ.inv (S:=Nat×Store) (fun w=>[(7,.ptr p7 0),(9,.ptr p9 0),(11,.ptr p11 0),(12,.int .i64 (w.1:Int))]) (fun w=>w.2)
   (fun w=>w.1≤e.ps.length∧Store.sub σ w.2∧w.2 p11=some (.box [.int .u32 q.1,.int .i64 q.2])∧w.2 p7=some (.box (⟨-1,b.id,b.addr,false,{ tm with cms:=[] }⟩:PathR).c)∧w.2 p9=some (.box (e.cV (.os g 4 0 e.ps.length)))∧w.2 g=some (.arr 4 (e.ps.map Peer.c)))
   (fun w=>e.ps.length+1 - w.1) (0,V) rfl (Store.sub_refl _) ⟨Nat.zero_le _,sV,V11,V7,V9,Vg⟩ ?_
  clear V7 V9 V11 Vg sV
  rintro ⟨j,s⟩ ⟨hj,hs,s11,s7,s9,sg⟩
  simp only at hj hs s11 s7 s9 sg
  have hl:=hKo.len
  simp only [s9,c7,f3,↓vcPre,↓z0,↓reduceIte,vcPost,vcStd,Nat.reduceEqDiff,reduceCtorEq,Nat.reduceAdd,Nat.reduceLeDiff,Int.reduceLT,Int.reduceLE,↓u_setN]
  have i0:Inc ([]:List Int):=by simp [Inc]
  have i1:Inc ([4294967041]:List Int):=by simp [Inc]
  have i2:Inc ([5,4294967042]:List Int):=by simp [Inc]
  have hlm:(e.ps.map Peer.c).length=e.ps.length:=List.length_map _
  have f0:∀ (c:Cfg) v,List.take 1 (c.cV v)=[.int .u32 c.asn]:=fun _ _=>rfl
  have q0:List.take 2 [AV.int .u32 q.1,.int .i64 q.2]=[.int .u32 q.1,.int .i64 q.2]:=rfl
  have t9:∀ y:At,List.take 9 y.c=y.c:=fun _=>rfl
  have hz:∀ y:At,splice 0 y.c zCells=some y.c:=fun _=>rfl
  refine ⟨fun c1 => ?_,fun c1 => ?_⟩
  ·have hj':j<e.ps.length:=by omega
   have ej:IntKind.i64.wrap ((j:Int)+1)=((j+1:Nat):Int):=by rw [zj (by unfold I64;omega)];omega
   have e0:0+j=j:=by omega
   have eg:∀ h,(List.map Peer.c e.ps)[j]'h=e.ps[j].c:=fun h=>List.getElem_map ..
   have g0:List.take 1 e.ps[j].c=[.int .u32 e.ps[j].asn]:=rfl
   have g4:e.ps[j].c.length=4:=rfl
   have hin:innerA e e.ps[j]=decide (e.ps[j].asn=e.asn):=rfl
   refine ⟨hj',?_⟩
   simp only [e0]
   simp only [sg,s7,s11,eg,hlm,g0,g4,f0,t7,t13,c13,↓vcPre,↓z0,↓reduceIte,vcPost,vcStd,Nat.reduceEqDiff,reduceCtorEq,Nat.reduceAdd,Nat.reduceLeDiff,Int.reduceLT,Int.reduceLE,↓u_setN]
   refine ⟨hj',(tld [] i0 (by simp) s sg j).Q ?_⟩
   have h0:=tA [] i0 (by simp) j hj'
   generalize toldA e (j:Int) q ⟨-1,b.id,b.addr,false,{ tm with cms:=[] }⟩=R0 at h0 ⊢
   have h0':R0.2=true:=by rw [h0];simp
   rw [h0']
   rintro r s ⟨rfl,rfl⟩
   simp only [e9,t9,hz,↓vcPre,↓z0,↓reduceIte,vcPost,vcStd,Nat.reduceEqDiff,reduceCtorEq,Nat.reduceAdd,Nat.reduceLeDiff,Int.reduceLT,Int.reduceLE,↓u_setN]
   refine AllocQ.i0 fun p14 h14 => ?_
   simp only [hz,e9,↓vcPre,↓z0,↓reduceIte,vcPost,vcStd,Nat.reduceEqDiff,reduceCtorEq,Nat.reduceAdd,Nat.reduceLeDiff,Int.reduceLT,Int.reduceLE,↓u_setN]
   have sV:Store.sub s ((s.set p14 (.box zCells)).set p14 (.box R0.1.c)):=zb (Store.sub_set _ _ _ h14) h14
   generalize (s.set p14 (.box zCells)).set p14 (.box R0.1.c)=V at sV ⊢
   have V7:=sV _ _ s7
   have V9:=sV _ _ s9
   have V11:=sV _ _ s11
   have Vg:=sV _ _ sg
   have sσV:=Store.sub_trans hs sV
   clear s7 s9 s11 sg sV hs h14
   simp only [V7,t13,c13,↓vcPre,↓z0,↓reduceIte,vcPost,vcStd,Nat.reduceEqDiff,reduceCtorEq,Nat.reduceAdd,Nat.reduceLeDiff,Int.reduceLT,Int.reduceLE,↓u_setN]
   refine AllocQ.i0 fun p16 h16 => ?_
   have w13:∀ b:PathR,splice 0 b.c (AV.int .i64 0::AV.int .u32 0::AV.int .u32 0::AV.bool false::zCells)=some b.c:=fun _=>rfl
   have n9':¬ p9=p16:=fun e=>by subst e;rw [V9] at h16;cases h16
   have n7':¬ p7=p16:=fun e=>by subst e;rw [V7] at h16;cases h16
   have n11':¬ p11=p16:=fun e=>by subst e;rw [V11] at h16;cases h16
   have ng':¬ g=p16:=fun e=>by subst e;rw [Vg] at h16;cases h16
   simp only [t13,c13,w13,↓vcPre,↓z0,↓reduceIte,vcPost,vcStd,Nat.reduceEqDiff,reduceCtorEq,Nat.reduceAdd,Nat.reduceLeDiff,Int.reduceLT,Int.reduceLE,↓u_setN]
   have sW:Store.sub V ((V.set p16 (.box (AV.int .i64 0::AV.int .u32 0::AV.int .u32 0::AV.bool false::zCells))).set p16 (.box (⟨-1,b.id,b.addr,false,{ tm with cms:=[] }⟩:PathR).c)):=zb (Store.sub_set _ _ _ h16) h16
   have W16:=Store.set_same (V.set p16 (.box (AV.int .i64 0::AV.int .u32 0::AV.int .u32 0::AV.bool false::zCells))) p16 (.box (⟨-1,b.id,b.addr,false,{ tm with cms:=[] }⟩:PathR).c)
   generalize (V.set p16 (.box (AV.int .i64 0::AV.int .u32 0::AV.int .u32 0::AV.bool false::zCells))).set p16 (.box (⟨-1,b.id,b.addr,false,{ tm with cms:=[] }⟩:PathR).c)=W at sW W16 ⊢
   have W7:=sW _ _ V7
   have W9:=sW _ _ V9
   have W11:=sW _ _ V11
   have Wg:=sW _ _ Vg
   have sσW:=Store.sub_trans sσV sW
   have hσ16:=zk sσV h16
   clear V7 V9 V11 Vg sσV sW h16
   refine AllocQ.i0 fun p20 h20 => ?_
   have m16:¬ p16=p20:=fun e=>by subst e;rw [W16] at h20;cases h20
   have m7:¬ p7=p20:=fun e=>by subst e;rw [W7] at h20;cases h20
   have m9:¬ p9=p20:=fun e=>by subst e;rw [W9] at h20;cases h20
   have m11:¬ p11=p20:=fun e=>by subst e;rw [W11] at h20;cases h20
   have mg:¬ g=p20:=fun e=>by subst e;rw [Wg] at h20;cases h20
   simp only [W16,m16,c13,w12,↓vcPre,↓z0,↓reduceIte,vcPost,vcStd,Nat.reduceEqDiff,reduceCtorEq,Nat.reduceAdd,Nat.reduceLeDiff,Int.reduceLT,Int.reduceLE,↓u_setN]
   refine WkQ.of (WeakE.frzCms (L:=[4294967041]) (id:=p20) (Store.set_same _ _ _) (by rw [Store.set_ne _ _ (fun e=>m16 e.symm)];exact Store.set_same _ _ _) fun Y Y16 hY => ?_)
   have Y7:=hY _ _ n7' m7 (by rw [Store.set_ne _ _ n7',Store.set_ne _ _ m7];exact W7)
   have Y9:=hY _ _ n9' m9 (by rw [Store.set_ne _ _ n9',Store.set_ne _ _ m9];exact W9)
   have Y11:=hY _ _ n11' m11 (by rw [Store.set_ne _ _ n11',Store.set_ne _ _ m11];exact W11)
   have Yg:=hY _ _ ng' mg (by rw [Store.set_ne _ _ ng',Store.set_ne _ _ mg];exact Wg)
   have sσY:Store.sub σ Y:=fun q o hq=>by
    have q1:¬ q=p16:=fun e=>by subst e;rw [hσ16] at hq;cases hq
    have q2:¬ q=p20:=fun e=>by subst e;rw [zk sσW h20] at hq;cases hq
    exact hY q o q1 q2 (by rw [Store.set_ne _ _ q1,Store.set_ne _ _ q2];exact sσW q o hq)
   clear W7 W9 W11 Wg W16 sσW h20 hY m16 m7 m9 m11 mg
   simp only [Y9,Y11,Y16,c7,t7,t13,c13,↓vcPre,↓z0,↓reduceIte,vcPost,vcStd,Nat.reduceEqDiff,reduceCtorEq,Nat.reduceAdd,Nat.reduceLeDiff,Int.reduceLT,Int.reduceLE,↓u_setN]
   refine (tld [4294967041] i1 (by simp) Y Yg j).Q ?_
   have h1:=tA [4294967041] i1 (by simp) j hj'
   generalize toldA e (j:Int) q ⟨-1,b.id,b.addr,false,{ tm with cms:=[4294967041] }⟩=R1 at h1 ⊢
   have h1':R1.2=innerA e e.ps[j]:=by rw [h1];simp
   rw [h1',hin]
   rintro r s ⟨rfl,rfl⟩
   simp only [e9,t9,hz,↓vcPre,↓z0,↓reduceIte,vcPost,vcStd,Nat.reduceEqDiff,reduceCtorEq,Nat.reduceAdd,Nat.reduceLeDiff,Int.reduceLT,Int.reduceLE,↓u_setN]
   refine AllocQ.i0 fun p17 h17 => ?_
   simp only [hz,e9,↓vcPre,↓z0,↓reduceIte,vcPost,vcStd,Nat.reduceEqDiff,reduceCtorEq,Nat.reduceAdd,Nat.reduceLeDiff,Int.reduceLT,Int.reduceLE,↓u_setN]
   have sV:Store.sub s ((s.set p17 (.box zCells)).set p17 (.box R1.1.c)):=zb (Store.sub_set _ _ _ h17) h17
   generalize (s.set p17 (.box zCells)).set p17 (.box R1.1.c)=V at sV ⊢
   have V7:=sV _ _ Y7
   have V9:=sV _ _ Y9
   have V11:=sV _ _ Y11
   have V16:=sV _ _ Y16
   have Vg:=sV _ _ Yg
   have sσV:=Store.sub_trans sσY sV
   clear Y7 Y9 Y11 Yg Y16 sV sσY h17
   refine AllocQ.i0 fun p20 h20 => ?_
   have m16:¬ p16=p20:=fun e=>by subst e;rw [V16] at h20;cases h20
   have m7:¬ p7=p20:=fun e=>by subst e;rw [V7] at h20;cases h20
   have m9:¬ p9=p20:=fun e=>by subst e;rw [V9] at h20;cases h20
   have m11:¬ p11=p20:=fun e=>by subst e;rw [V11] at h20;cases h20
   have mg:¬ g=p20:=fun e=>by subst e;rw [Vg] at h20;cases h20
   simp only [V16,m16,c13,w12,↓vcPre,↓z0,↓reduceIte,vcPost,vcStd,Nat.reduceEqDiff,reduceCtorEq,Nat.reduceAdd,Nat.reduceLeDiff,Int.reduceLT,Int.reduceLE,↓u_setN]
   refine WkQ.of (WeakE.frzCms (L:=[5,4294967042]) (id:=p20) (Store.set_same _ _ _) (by rw [Store.set_ne _ _ (fun e=>m16 e.symm)];exact Store.set_same _ _ _) fun Y Y16 hY => ?_)
   have Y7:=hY _ _ n7' m7 (by rw [Store.set_ne _ _ n7',Store.set_ne _ _ m7];exact V7)
   have Y9:=hY _ _ n9' m9 (by rw [Store.set_ne _ _ n9',Store.set_ne _ _ m9];exact V9)
   have Y11:=hY _ _ n11' m11 (by rw [Store.set_ne _ _ n11',Store.set_ne _ _ m11];exact V11)
   have Yg:=hY _ _ ng' mg (by rw [Store.set_ne _ _ ng',Store.set_ne _ _ mg];exact Vg)
   have sσY:Store.sub σ Y:=fun q o hq=>by
    have q1:¬ q=p16:=fun e=>by subst e;rw [hσ16] at hq;cases hq
    have q2:¬ q=p20:=fun e=>by subst e;rw [zk sσV h20] at hq;cases hq
    exact hY q o q1 q2 (by rw [Store.set_ne _ _ q1,Store.set_ne _ _ q2];exact sσV q o hq)
   clear V7 V9 V11 Vg V16 sσV h20 hY m16 m7 m9 m11 mg
   simp only [Y9,Y11,Y16,c7,t7,t13,c13,↓vcPre,↓z0,↓reduceIte,vcPost,vcStd,Nat.reduceEqDiff,reduceCtorEq,Nat.reduceAdd,Nat.reduceLeDiff,Int.reduceLT,Int.reduceLE,↓u_setN]
   refine (tld [5,4294967042] i2 (by simp) Y Yg j).Q ?_
   have h2:=tA [5,4294967042] i2 (by simp) j hj'
   generalize toldA e (j:Int) q ⟨-1,b.id,b.addr,false,{ tm with cms:=[5,4294967042] }⟩=R2 at h2 ⊢
   have h2':R2.2=false:=by rw [h2];simp
   rw [h2']
   rintro r s ⟨rfl,rfl⟩
   simp only [e9,t9,hz,↓vcPre,↓z0,↓reduceIte,vcPost,vcStd,Nat.reduceEqDiff,reduceCtorEq,Nat.reduceAdd,Nat.reduceLeDiff,Int.reduceLT,Int.reduceLE,↓u_setN]
   refine AllocQ.i0 fun p19 h19 => ?_
   simp only [hz,e9,↓vcPre,↓z0,↓reduceIte,vcPost,vcStd,Nat.reduceEqDiff,reduceCtorEq,Nat.reduceAdd,Nat.reduceLeDiff,Int.reduceLT,Int.reduceLE,↓u_setN]
   have sV:Store.sub s ((s.set p19 (.box zCells)).set p19 (.box R2.1.c)):=zb (Store.sub_set _ _ _ h19) h19
   rw [show (decide (e.ps[j].asn=e.asn) != decide (e.ps[j].asn=e.asn))=false by simp]
   simp only [ej,↓vcPre,↓z0,↓reduceIte,vcPost,vcStd,Nat.reduceEqDiff,reduceCtorEq,Nat.reduceAdd,Nat.reduceLeDiff,Int.reduceLT,Int.reduceLE,↓u_setN]
   exact NextQ.to (j+1,(s.set p19 (.box zCells)).set p19 (.box R2.1.c)) rfl (Store.sub_refl _) (by simp only;omega) ⟨hj',Store.sub_trans sσY sV,sV _ _ Y11,sV _ _ Y7,sV _ _ Y9,sV _ _ Yg⟩
  ·have ej:j=e.ps.length:=by omega
   subst ej
   simp only [s7,s11,t7,t13,c13,↓vcPre,↓z0,↓reduceIte,vcPost,vcStd,Nat.reduceEqDiff,reduceCtorEq,Nat.reduceAdd,Nat.reduceLeDiff,Int.reduceLT,Int.reduceLE,↓u_setN]
   refine (tld [] i0 (by simp) s sg e.ps.length).Q ?_
   rw [z7b (Nat.le_refl _)]
   rintro r s ⟨rfl,rfl⟩
   simp only [e9,t9,hz,↓vcPre,↓z0,↓reduceIte,vcPost,vcStd,Nat.reduceEqDiff,reduceCtorEq,Nat.reduceAdd,Nat.reduceLeDiff,Int.reduceLT,Int.reduceLE,↓u_setN]
   refine AllocQ.i0 fun p21 h21 => ?_
   simp only [hz,e9,↓vcPre,↓z0,↓reduceIte,vcPost,vcStd,Nat.reduceEqDiff,reduceCtorEq,Nat.reduceAdd,Nat.reduceLeDiff,Int.reduceLT,Int.reduceLE,↓u_setN]
   refine (c39).Q ?_
   simp only [↓vcPre,↓z0,↓reduceIte,vcPost,vcStd,Nat.reduceEqDiff,reduceCtorEq,Nat.reduceAdd,Nat.reduceLeDiff,Int.reduceLT,Int.reduceLE,↓u_setN]
   exact Store.sub_trans hs (zb (Store.sub_set _ _ _ h21) h21)
end Go.Am
namespace Go.Am
open Go.Proofs Go.Sort
theorem z4x (xs:List AV) (h:TOk Try.prog 4 48 xs):∃ rs:List Rule,ImpL xs [.sl 12 (rs.map Rule.c)]∧(∀ r ∈ rs,r.ok):=by
 obtain ⟨rs,hi,_,ho⟩:=TOk.slI (sz:=12) (by_:=72) Try.underlying48 (by kernel_rfl) (by kernel_rfl) Rule.c Rule.ok zc6 h
 exact ⟨rs,hi,ho⟩
theorem zc5 (xs:List AV) (h:TOk Try.prog 5 76 xs):∃ p:Peer,ImpL xs p.c∧((∀ r ∈ p.inn,r.ok)∧(∀ r ∈ p.out,r.ok)):=by
 obtain ⟨a1,b1,rfl,h1,a2,b2,rfl,h2,a3,b3,rfl,h3,a4,b4,rfl,h4,rfl⟩:=TOk.struct (ts:=[30,30,48,48]) Try.underlying76 rfl h
 obtain ⟨m1,rfl,_,_⟩:=TOk.int Try.underlying30 h1
 obtain ⟨m2,rfl,_,_⟩:=TOk.int Try.underlying30 h2
 obtain ⟨r3,i3,o3⟩:=z4x _ h3
 obtain ⟨r4,i4,o4⟩:=z4x _ h4
 exact ⟨⟨m1,m2,r3,r4⟩,(ImpL.one rfl).append ((ImpL.one rfl).append (i3.append (i4.append .nil))),o3,o4⟩
theorem ze8 (xs:List AV) (h:TOk Try.prog 7 71 xs):∃ c:Cfg,ImpL xs (c.cV (.sl 4 (c.ps.map Peer.c)))∧c.Ok:=by
 obtain ⟨a1,b1,rfl,h1,a2,b2,rfl,h2,a3,b3,rfl,h3,a4,b4,rfl,h4,a5,b5,rfl,h5,a6,b6,rfl,h6,a7,b7,rfl,h7,rfl⟩:=TOk.struct (ts:=[30,30,3,69,3,3,3]) Try.underlying71 rfl h
 obtain ⟨m1,rfl,_,_⟩:=TOk.int Try.underlying30 h1
 obtain ⟨m2,rfl,_,_⟩:=TOk.int Try.underlying30 h2
 obtain ⟨m3,rfl,_,_⟩:=TOk.int Try.underlying3 h3
 obtain ⟨ps,i4,z4,o4⟩:=TOk.slI (sz:=4) (by_:=56) Try.underlying69 (by kernel_rfl) (by kernel_rfl) Peer.c (fun p=>(∀ r ∈ p.inn,r.ok)∧(∀ r ∈ p.out,r.ok)) zc5 h4
 obtain ⟨m5,rfl,w1,w2⟩:=TOk.int Try.underlying3 h5
 obtain ⟨m6,rfl,d1,d2⟩:=TOk.int Try.underlying3 h6
 obtain ⟨m7,rfl,_,_⟩:=TOk.int Try.underlying3 h7
 exact ⟨⟨m1,m2,m3,ps,m5,m6,m7⟩,(ImpL.one rfl).append ((ImpL.one rfl).append ((ImpL.one rfl).append (i4.append ((ImpL.one rfl).append ((ImpL.one rfl).append ((ImpL.one rfl).append .nil)))))),⟨w1,w2⟩,⟨d1,d2⟩,z73 (by omega) z4,o4⟩
theorem zez {w:World} {a:List AV} {v:Array Value} (hr:VRel (G0 w) w (.agg a) (.agg v)) (h:TOk Try.prog 7 71 a):∃ c:Cfg,VRel (G0 w) w (.agg (c.cV (.sl 4 (c.ps.map Peer.c)))) (.agg v)∧c.Ok:=by
 obtain ⟨r,hi,ho⟩:=ze8 _ h
 exact ⟨r,z3e hi hr,ho⟩
def pfC (q:Int×Int):List AV:=[.int .u32 q.1,.int .i64 q.2]
theorem zey {w:World} {a:List AV} {v:Array Value} (hr:VRel (G0 w) w (.agg a) (.agg v)) (h:TOk Try.prog 2 51 a):∃ q:Int×Int,VRel (G0 w) w (.agg (pfC q)) (.agg v)∧I64 q.2:=by
 obtain ⟨p1,q1,rfl,g1,p2,q2,rfl,g2,rfl⟩:=TOk.struct (ts:=[30,3]) Try.underlying51 rfl h
 obtain ⟨m1,rfl,_,_⟩:=TOk.int Try.underlying30 g1
 obtain ⟨m2,rfl,l1,l2⟩:=TOk.int Try.underlying3 g2
 exact ⟨(m1,m2),hr,⟨l1,l2⟩⟩
theorem zex {w:World} {a:List AV} {v:Array Value} (hr:VRel (G0 w) w (.agg a) (.agg v)) (h:TOk Try.prog 6 73 a):∃ b:PathR,VRel (G0 w) w (.agg b.c) (.agg v)∧(I64 b.peer∧I64 b.a.org∧okNums b.a):=by
 obtain ⟨a1,b1,rfl,h1,a2,b2,rfl,h2,a3,b3,rfl,h3,a4,b4,rfl,h4,a5,b5,rfl,h5,rfl⟩:=TOk.struct (ts:=[3,30,30,4,33]) Try.underlying73 rfl h
 obtain ⟨m1,rfl,w1,w2⟩:=TOk.int Try.underlying3 h1
 obtain ⟨m2,rfl,_,_⟩:=TOk.int Try.underlying30 h2
 obtain ⟨m3,rfl,_,_⟩:=TOk.int Try.underlying30 h3
 obtain ⟨m4,rfl⟩:=TOk.bool Try.underlying4 h4
 obtain ⟨m5,i5,o5⟩:=dAt _ h5
 refine ⟨⟨m1,m2,m3,m4,m5⟩,z3e ?_ hr,⟨w1,w2⟩,o5⟩
 have:=(ImpL.one (x:=AV.int .i64 m1) rfl).append ((ImpL.one (x:=AV.int .u32 m2) rfl).append ((ImpL.one (x:=AV.int .u32 m3) rfl).append ((ImpL.one (x:=AV.bool m4) rfl).append (i5.append .nil))))
 simpa [PathR.c] using this
theorem zdx (c:Cfg) (hc:c.Ok) (k:Int) (_:I64 k) (q:Int×Int) (hq:I64 q.2) (b:PathR) (hb:I64 b.peer∧I64 b.a.org∧okNums b.a):Pur Try.prog 10 [.agg (c.cV (.sl 4 (c.ps.map Peer.c))),.int .i64 k,.agg (pfC q),.agg b.c] (.bool true):=z6r c hc k q.1 q.2 hq b hb.2.1 hb.2.2.1.1
end Go.Am
