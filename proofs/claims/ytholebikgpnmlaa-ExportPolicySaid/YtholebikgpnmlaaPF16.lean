/- A part of the proof: a logic for calls over plain values, and the functions that the law reaches, each walked once. -/
import Derived.Test.YtholebikgpnmlaaPF15
set_option linter.unusedVariables false
set_option linter.unusedSimpArgs false
set_option linter.unusedSectionVars false
namespace Go.Am
open Go.Proofs Go.Sort
theorem vz {α:Type} {o:Option α} {b:α} {f:α→Prop} (h:o=some b) (hf:f b):wit o f:=by rw [h,yi];exact hf
section
variable {σ:Store} {n rr:Env→Store→Prop} {xx:Nat→Env→Store→Prop}
set_option maxHeartbeats 1000000 in
set_option maxRecDepth 20000 in
theorem z5n {W:Store} {p1 h:Nat} (hs:Store.sub σ W) (W1:W p1=some (.box (cfg1.cV (.os h 4 0 4)))) (Wh:W h=some (.arr 4 (cfg1.ps.map Peer.c))) (hfin:∀ t,Store.sub σ t→rr [(0,.bool true)] t):bwp Try.prog Ts30.t39_18 [(1,.ptr p1 0)] W n rr xx:=by
 simp only [Ts30.t39_18,x9]
 simp only [↓vcPre,↓z0,↓reduceIte,vcPost,vcStd,Nat.reduceEqDiff,reduceCtorEq,Nat.reduceAdd,Nat.reduceLeDiff,Int.reduceLT,Int.reduceLE,↓u_setN]
 have h0:=c25 zeroAt (by unfold I64 zeroAt;decide) 65001 W
 have hk:ACalls Try.prog 25 [.agg zCells,.int .u32 65001] W _:=ACalls.weakArgs h0.1 (WeakL.pos 0 rfl (z0k (WeakL.pure h0)))
 refine hk.Q ?_
 rintro r W ⟨rfl,rfl⟩
 have e9:∀ y:At,y.c.length=9:=fun _=>rfl
 have t9:∀ y:At,List.take 9 y.c=y.c:=fun _=>rfl
 have hz:∀ y:At,splice 0 y.c zCells=some y.c:=fun _=>rfl
 have c7:(cfg1.cV (.os h 4 0 4)).length=7:=rfl
 have t7:List.take 7 (cfg1.cV (.os h 4 0 4))=cfg1.cV (.os h 4 0 4):=rfl
 have b13:path1.c.length=13:=rfl
 have t13:List.take 13 path1.c=path1.c:=rfl
 have pf:AV.int .i64 0 :: .int .u32 0 :: .int .u32 0 :: .bool false::(tameA zeroAt 65001).c=path1.c:=rfl
 have f1:List.take 1 (List.drop 1 (cfg1.cV (.os h 4 0 4)))=[.int .u32 16843009]:=rfl
 simp only [e9,hz,pf,↓vcPre,↓z0,↓reduceIte,vcPost,vcStd,Nat.reduceEqDiff,reduceCtorEq,Nat.reduceAdd,Nat.reduceLeDiff,Int.reduceLT,Int.reduceLE,↓u_setN]
 refine AllocQ.i0 fun p2 h2 => ?_
 simp only [↓vcPre,↓z0,↓reduceIte,vcPost,vcStd,Nat.reduceEqDiff,reduceCtorEq,Nat.reduceAdd,Nat.reduceLeDiff,Int.reduceLT,Int.reduceLE,↓u_setN]
 refine ⟨b13,?_⟩
 rw [show splice 0 path1.c (AV.int .i64 0::AV.int .u32 0::AV.int .u32 0::AV.bool false::zCells)=some path1.c from rfl,yi]
 have n12:¬ p1=p2:=fun e=>by subst e;rw [W1] at h2;cases h2
 have sU:Store.sub W ((W.set p2 (.box (AV.int .i64 0::AV.int .u32 0::AV.int .u32 0::AV.bool false::zCells))).set p2 (.box path1.c)):=zb (Store.sub_set _ _ _ h2) h2
 have U2:=Store.set_same (W.set p2 (.box (AV.int .i64 0::AV.int .u32 0::AV.int .u32 0::AV.bool false::zCells))) p2 (.box path1.c)
 generalize (W.set p2 (.box (AV.int .i64 0::AV.int .u32 0::AV.int .u32 0::AV.bool false::zCells))).set p2 (.box path1.c)=U at sU U2 ⊢
 have U1:=sU _ _ W1
 have Uh:=sU _ _ Wh
 have sσU:=Store.sub_trans hs sU
 clear W1 Wh h0 hk hs sU
 have hr:=Rd.os (esz:=4) Uh
 have told:∀ (t:Store) (k:Int),Store.sub U t→ACalls Try.prog 38 [.agg (cfg1.cV (.os h 4 0 4)),.int .i64 k,.agg [.int .u32 0,.int .i64 0],.agg path1.c] t (fun r s=>s=t∧r = .tup [.agg (toldA cfg1 k (0,0) path1).1.c,.bool (toldA cfg1 k (0,0) path1).2]):=fun t k ht =>
  s38 cfg1 kept_cfg1.fit k (0,0) path1 (uy zeroAt 65001 (by decide)).aok (hr.mono ht)
 simp only [U1,U2,c7,t7,b13,t13,↓vcPre,↓z0,↓reduceIte,vcPost,vcStd,Nat.reduceEqDiff,reduceCtorEq,Nat.reduceAdd,Nat.reduceLeDiff,Int.reduceLT,Int.reduceLE,↓u_setN]
 refine (told U 1 (Store.sub_refl _)).Q ?_
 rw [zcz]
 rintro r U' ⟨rfl,rfl⟩
 generalize hX:(⟨0,[⟨2,[65000,65001]⟩],16843009,false,0,false,0,false,[]⟩:At)=X
 have X1:List.take 1 (List.drop 1 X.c)=[.sl 2 [[.int .i64 2,.sl 1 [[.int .u32 65000],[.int .u32 65001]]]]]:=by rw [←hX];rfl
 have X2:List.take 1 (List.drop 2 X.c)=[.int .u32 16843009]:=by rw [←hX];rfl
 clear hX
 simp only [e9,t9,hz,↓vcPre,↓z0,↓reduceIte,vcPost,vcStd,Nat.reduceEqDiff,reduceCtorEq,Nat.reduceAdd,Nat.reduceLeDiff,Int.reduceLT,Int.reduceLE,↓u_setN]
 refine AllocQ.i0 fun p3 h3 => ?_
 simp only [hz,e9,↓vcPre,↓z0,↓reduceIte,vcPost,vcStd,Nat.reduceEqDiff,reduceCtorEq,Nat.reduceAdd,Nat.reduceLeDiff,Int.reduceLT,Int.reduceLE,↓u_setN]
 have n13:¬ p1=p3:=fun e=>by subst e;rw [U1] at h3;cases h3
 have sV:Store.sub U' ((U'.set p3 (.box zCells)).set p3 (.box X.c)):=zb (Store.sub_set _ _ _ h3) h3
 have V3:=Store.set_same (U'.set p3 (.box zCells)) p3 (.box X.c)
 generalize (U'.set p3 (.box zCells)).set p3 (.box X.c)=V at sV V3 ⊢
 have V1:=sV _ _ U1
 have V2:=sV _ _ U2
 have sσV:=Store.sub_trans sσU sV
 simp only [V1,V2,c7,t7,b13,t13,↓vcPre,↓z0,↓reduceIte,vcPost,vcStd,Nat.reduceEqDiff,reduceCtorEq,Nat.reduceAdd,Nat.reduceLeDiff,Int.reduceLT,Int.reduceLE,↓u_setN]
 refine (told V 0 sV).Q ?_
 rw [zcy]
 rintro r V' ⟨rfl,rfl⟩
 have zt:∀ w:List AV,w=zCells→splice 0 zeroAt.c w=some zeroAt.c:=fun w e=>by subst e;rfl
 simp only [e9,t9,hz,↓vcPre,↓z0,↓reduceIte,vcPost,vcStd,Nat.reduceEqDiff,reduceCtorEq,Nat.reduceAdd,Nat.reduceLeDiff,Int.reduceLT,Int.reduceLE,↓u_setN]
 refine AllocQ.i0 fun p5 h5 => ?_
 simp only [hz,e9,↓vcPre,↓z0,↓reduceIte,vcPost,vcStd,Nat.reduceEqDiff,reduceCtorEq,Nat.reduceAdd,Nat.reduceLeDiff,Int.reduceLT,Int.reduceLE,↓u_setN]
 have sY:Store.sub V' ((V'.set p5 (.box zCells)).set p5 (.box zeroAt.c)):=zb (Store.sub_set _ _ _ h5) h5
 generalize (V'.set p5 (.box zCells)).set p5 (.box zeroAt.c)=Y at sY ⊢
 have Y1:=sY _ _ V1
 have Y3:=sY _ _ V3
 simp only [Y1,Y3,X1,X2,e9,c7,f1,↓vcPre,↓z0,↓reduceIte,vcPost,vcStd,Nat.reduceEqDiff,reduceCtorEq,Nat.reduceAdd,Nat.reduceLeDiff,Int.reduceLT,Int.reduceLE,↓u_setN]
 refine ⟨fun _=>⟨by decide,by decide,vz (b := .sl 1 [[.int .u32 65000],[.int .u32 65001]]) rfl (vz (b := .ep [.int .u32 65000]) rfl ?_)⟩,fun h=>absurd rfl h⟩
 simp only [↓vcPre,↓z0,↓reduceIte,vcPost,vcStd,Nat.reduceEqDiff,reduceCtorEq,Nat.reduceAdd,Nat.reduceLeDiff,Int.reduceLT,Int.reduceLE,↓u_setN]
 exact hfin _ (Store.sub_trans sσV sY)
end
set_option maxHeartbeats 1000000 in
set_option maxRecDepth 20000 in
theorem c39:Pur Try.prog 39 [] (.bool true):=by
 refine zp Ts30.F39 (by simp [Ts30.F39,Fn.mkX]) fun σ => ?_
 simp only [Ts30.F39,Fn.mkX,Ts30.b39]
 simp only [↓vcPre,↓z0,↓reduceIte,vcPost,vcStd,Nat.reduceEqDiff,reduceCtorEq,Nat.reduceAdd,Nat.reduceLeDiff,Int.reduceLT,Int.reduceLE,↓u_setN]
 refine ⟨by decide,AllocQ.i0 fun g hg => ?_⟩
 simp only [↓vcPre,↓z0,↓reduceIte,vcPost,vcStd,Nat.reduceEqDiff,reduceCtorEq,Nat.reduceAdd,Nat.reduceLeDiff,Int.reduceLT,Int.reduceLE,↓u_setN]
 have imp:Rels ImpL (List.replicate 3 [AV.int .u32 0,.int .u32 0,.nils,.nils]) (cfg0.ps.map Peer.c):=by
  have e:ImpL [AV.int .u32 0,.int .u32 0,.nils,.nils] P0.c := .cons (.refl rfl) (.cons (.refl rfl) (.cons .nils (.cons .nils .nil)))
  exact .cons e (.cons e (.cons e .nil))
 have sU:Store.sub σ ((σ.set g (.arr 4 (List.replicate 3 [AV.int .u32 0,.int .u32 0,.nils,.nils]))).set g (.arr 4 (cfg0.ps.map Peer.c))):=zb (Store.sub_set _ _ _ hg) hg
 have hcall:=zas (σ:=(σ.set g (.arr 4 (List.replicate 3 [AV.int .u32 0,.int .u32 0,.nils,.nils]))).set g (.arr 4 (cfg0.ps.map Peer.c))) cfg0 ⟨by unfold I64 cfg0;decide,by unfold I64 cfg0;decide,by unfold Small cfg0;decide,fun p hp=>by
  have:p=P0:=by simp [cfg0] at hp;exact hp
  subst this
  exact ⟨by simp [P0],by simp [P0]⟩⟩ (lv := .os g 4 0 3) (Rd.os (Store.set_same _ _ _))
 have hcall2:=ACalls.weakArgs (σ:=σ.set g (.arr 4 (List.replicate 3 [AV.int .u32 0,.int .u32 0,.nils,.nils]))) hcall.1 (WeakL.arrImp g (Store.set_same _ _ _) imp (WeakL.pure hcall))
 generalize (σ.set g (.arr 4 (List.replicate 3 [AV.int .u32 0,.int .u32 0,.nils,.nils]))).set g (.arr 4 (cfg0.ps.map Peer.c))=U at *
 clear hcall
 refine hcall2.Q ?_
 rintro r T ⟨v,rfl,q1,q2⟩
 rw [z7z] at q2
 rcases q2 with ⟨e,_⟩ | ⟨h,rfl,hh,hT⟩
 ·simp at e
 have c7:((configK cfg0).cV (.os h 4 0 4)).length=7:=rfl
 simp only [c7,↓vcPre,↓z0,↓reduceIte,vcPost,vcStd,Nat.reduceEqDiff,reduceCtorEq,Nat.reduceAdd,Nat.reduceLeDiff,Int.reduceLT,Int.reduceLE,↓u_setN]
 refine AllocQ.i0 fun p1 h1' => ?_
 simp only [c7,↓vcPre,↓z0,↓reduceIte,vcPost,vcStd,Nat.reduceEqDiff,reduceCtorEq,Nat.reduceAdd,Nat.reduceLeDiff,Int.reduceLT,Int.reduceLE,↓u_setN]
 have n1h:¬ p1=h:=fun e=>by subst e;rw [hT] at h1';cases h1'
 have hn1:¬ h=p1:=fun e=>n1h e.symm
 have sT:=Store.sub_trans sU q1
 have hz:splice 0 ((configK cfg0).cV (.os h 4 0 4)) [AV.int .u32 0,.int .u32 0,.int .i64 0,.nils,.int .i64 0,.int .i64 0,.int .i64 0]=some ((configK cfg0).cV (.os h 4 0 4)):=rfl
 have f3:List.take 1 (List.drop 3 ((configK cfg0).cV (.os h 4 0 4)))=[.os h 4 0 4]:=rfl
 rw [hz,yi]
 have V1:=Store.set_same (T.set p1 (.box [AV.int .u32 0,.int .u32 0,.int .i64 0,.nils,.int .i64 0,.int .i64 0,.int .i64 0])) p1 (.box ((configK cfg0).cV (.os h 4 0 4)))
 have sV:Store.sub T ((T.set p1 (.box [AV.int .u32 0,.int .u32 0,.int .i64 0,.nils,.int .i64 0,.int .i64 0,.int .i64 0])).set p1 (.box ((configK cfg0).cV (.os h 4 0 4)))):=zb (Store.sub_set _ _ _ h1') h1'
 generalize (T.set p1 (.box [AV.int .u32 0,.int .u32 0,.int .i64 0,.nils,.int .i64 0,.int .i64 0,.int .i64 0])).set p1 (.box ((configK cfg0).cV (.os h 4 0 4)))=V at V1 sV ⊢
 have Vh:=sV _ _ hT
 have hσh:=zk sU hh
 have sσV:=Store.sub_trans sT sV
 have hσ1:=zk sT h1'
 clear hT hz imp hcall2
 simp only [V1,Vh,f3,c7,↓vcPre,↓z0,↓reduceIte,vcPost,vcStd,Nat.reduceEqDiff,reduceCtorEq,Nat.reduceAdd,Nat.reduceLeDiff,Int.reduceLT,Int.reduceLE,↓u_setN]
 have fin:=z5n (n:=fun e τ=>e.get 0=some (AV.bool true)∧σ.sub τ) (rr:=fun e τ=>e.get 0=some (AV.bool true)∧σ.sub τ) (xx:=fun _ _ _=>False) (W:=V.set h (.arr 4 (cfg1.ps.map Peer.c))) (p1:=p1) (h:=h) (zb sσV hσh) (by rw [Store.set_ne _ _ n1h];exact V1) (Store.set_same _ _ _) (fun t ht=>⟨rfl,ht⟩)
 refine ⟨by decide,⟨by decide,vz (b:=(⟨65001,33686017,[],[]⟩:Peer).c) rfl ⟨by decide,by decide,vz (b:=(⟨65002,33686018,[],[]⟩:Peer).c) rfl ?_⟩⟩,⟨by decide,vz (b:=(⟨65001,33686017,[],[]⟩:Peer).c) rfl ?_⟩⟩
 ·rw [Store.set_set]
  exact fin
 ·simp only [Store.set_ne _ _ n1h,V1,f3,c7,↓vcPre,↓z0,↓reduceIte,vcPost,vcStd,Nat.reduceEqDiff,reduceCtorEq,Nat.reduceAdd,Nat.reduceLeDiff,Int.reduceLT,Int.reduceLE,↓u_setN]
  refine ⟨by decide,by decide,vz (b:=(⟨65002,33686018,[],[]⟩:Peer).c) rfl ?_⟩
  rw [Store.set_set]
  exact fin
end Go.Am
namespace Go.Am.Ts27
open Go.Proofs Go.Am.B
def b10:BC:=z [⟨some 4,none,.alloc (.box),[.t 0]⟩,⟨some 6,none,.alloc (.box),[.t 2]⟩,⟨some 7,none,.alloc (.box),[.t 3]⟩,k 8 (.bool false)] [4,6,7] (z [⟨some 23,none,.load (.ld 7 true),[.t 4]⟩,g 24 37 [.t 23],⟨some 9,none,.alloc (.alloc [(.int .u32 0),(.int .u32 0),(.int .i64 0),.nils,(.int .i64 0),(.int .i64 0),(.int .i64 0)]),[]⟩,s 7 9 24] [6,7,9] (.seq (z [j 10 0] [6,7,9,10] (.block 0 (.loop [6,7,9,10] (.seq (z [m 25 10,f 26 3 9,l 27 1 26,u 28 .len 27,b 29 .lss 25 28] [6,7,9,10,29] (.cond (.t 29) .skip (.exit 0))) (.seq (.block 1 (.ops [f 32 3 9,l 33 1 32,m 34 10,x 35 4 33 34,f 36 3 35,⟨none,none,.loud (.st 1),[.t 36,.c .nils]⟩] [6,7,9,10])) (.ops [m 30 10,c 31 .add 30 1,m 10 31] [6,7,9,10])))))) (.seq (.wk 6 (.ops [f 37 0 6,l 38 1 37,f 39 1 6,l 40 1 39,g 41 24 [.t 38,.t 40],⟨some 11,none,.alloc (.alloc [(.int .u32 0),(.int .i64 0)]),[]⟩,s 2 11 41] [7,9,11])) (z [f 42 0 7,⟨none,none,.loud (.st 1),[.t 42,.c (.int .i64 (-1))]⟩] [7,9,11] (z [f 43 3 7,⟨none,none,.loud (.st 1),[.t 43,.c (.bool false)]⟩] [7,9,11] (z [f 44 4 7,⟨some 45,none,.load (.ld 9 true),[.t 44]⟩,g 46 25 [.t 45,.c (.int .u32 65001)],f 47 4 7,s 9 47 46] [7,9,11] (z [f 48 4 7,f 49 8 48,⟨none,none,.loud (.st 1),[.t 49,.c .nils]⟩] [7,9,11] (.seq (.seq (.wk 11 (.ops [j 12 0] [7,9,11,12])) (.block 2 (.loop [7,9,11,12] (.seq (z [m 50 12,f 51 3 9,l 52 1 51,u 53 .len 52,b 54 .lss 50 53] [7,9,11,12,54] (.cond (.t 54) .skip (.exit 2))) (.seq (.block 3 (z [f 57 3 9,m 59 12,f 63 0 9,l 58 1 57,x 60 4 58 59,f 61 0 60,l 62 1 61,l 64 1 63,b 65 .eql 62 64,m 13 65] [7,9,11,12,13] (z [⟨some 67,none,.load (.ld 7 true),[.t 9]⟩,m 68 12,⟨some 69,none,.load (.ld 2 true),[.t 11]⟩,⟨some 70,none,.load (.ld 13 true),[.t 7]⟩,g 71 38 [.t 67,.t 68,.t 69,.t 70],m 66 71,e 72 0 66,e 73 1 66,⟨some 14,none,.alloc (.alloc [(.int .i64 0),.nils,(.int .u32 0),(.bool false),(.int .u32 0),(.bool false),(.int .u32 0),(.bool false),.nils]),[]⟩,s 9 14 72,m 15 73] [7,9,11,12,13,15] (z [⟨some 74,none,.load (.ld 13 true),[.t 7]⟩,⟨some 16,none,.alloc (.alloc [(.int .i64 0),(.int .u32 0),(.int .u32 0),(.bool false),(.int .i64 0),.nils,(.int .u32 0),(.bool false),(.int .u32 0),(.bool false),(.int .u32 0),(.bool false),.nils]),[]⟩,s 13 16 74] [7,9,11,12,13,15,16] (z [⟨some 75,none,.alloc (.mksl 1 1),[.c (.int .u32 4294967041)]⟩,f 76 4 16,f 77 8 76,s 1 77 75] [7,9,11,12,13,15,16] (.seq (.wk 18 (.ops [⟨some 79,none,.load (.ld 7 true),[.t 9]⟩,m 80 12,⟨some 81,none,.load (.ld 2 true),[.t 11]⟩,⟨some 82,none,.load (.ld 13 true),[.t 16]⟩,g 83 38 [.t 79,.t 80,.t 81,.t 82],m 78 83,e 84 0 78,e 85 1 78,⟨some 17,none,.alloc (.alloc [(.int .i64 0),.nils,(.int .u32 0),(.bool false),(.int .u32 0),(.bool false),(.int .u32 0),(.bool false),.nils]),[]⟩,s 9 17 84,m 18 85] [7,9,11,12,13,15,16,18])) (z [⟨some 86,none,.alloc (.mksl 1 2),[.c (.int .u32 5),.c (.int .u32 4294967042)]⟩,f 87 4 16,f 88 8 87,s 1 88 86] [7,9,11,12,13,15,16,18] (.seq (.wk 20 (.ops [⟨some 90,none,.load (.ld 7 true),[.t 9]⟩,m 91 12,⟨some 92,none,.load (.ld 2 true),[.t 11]⟩,⟨some 93,none,.load (.ld 13 true),[.t 16]⟩,g 94 38 [.t 90,.t 91,.t 92,.t 93],m 89 94,e 95 0 89,e 96 1 89,⟨some 19,none,.alloc (.alloc [(.int .i64 0),.nils,(.int .u32 0),(.bool false),(.int .u32 0),(.bool false),(.int .u32 0),(.bool false),.nils]),[]⟩,s 9 19 95,m 20 96] [7,9,11,12,13,15,18,20])) (z [m 97 15,u 98 .not 97,m 99 98,⟨some 100,some (99,false),.pure (.mov),[.t 18]⟩,⟨some 101,some (99,false),.pure (.mov),[.t 13]⟩,⟨some 102,some (99,false),.pure (.eqb true),[.t 100,.t 101]⟩,⟨some 103,none,.pick,[.t 99,.c (.bool true),.t 102]⟩,m 104 103,⟨some 105,some (104,false),.pure (.mov),[.t 20]⟩,⟨some 106,none,.pick,[.t 104,.c (.bool true),.t 105]⟩] [7,9,11,12,106] (.cond (.t 106) (z [k 8 (.bool false)] [8] .ret) .skip)))))))))) (.ops [m 55 12,c 56 .add 55 1,m 12 56] [7,9,11,12])))))) (z [⟨some 108,none,.load (.ld 7 true),[.t 9]⟩,f 109 3 9,l 110 1 109,u 111 .len 110,⟨some 112,none,.load (.ld 2 true),[.t 11]⟩,⟨some 113,none,.load (.ld 13 true),[.t 7]⟩,g 114 38 [.t 108,.t 111,.t 112,.t 113],m 107 114,e 115 0 107,e 116 1 107,⟨some 21,none,.alloc (.alloc [(.int .i64 0),.nils,(.int .u32 0),(.bool false),(.int .u32 0),(.bool false),(.int .u32 0),(.bool false),.nils]),[]⟩,s 9 21 115,m 22 116] [22] (z [m 117 22,u 118 .not 117,m 119 118,⟨some 120,some (119,true),.loud (.call 39),[]⟩,⟨some 121,none,.pick,[.t 119,.t 120,.c (.bool false)]⟩,m 8 121] [8] .ret))))))))))
end Go.Am.Ts27
namespace Go.Am
open Go.Proofs Go.Sort
theorem z2d {α β:Type} {R:α→β→Prop}:∀ {l:List α} {l':List β},l.length=l'.length→(∀ i (h:i<l.length) (h':i<l'.length),R l[i] l'[i])→Rels R l l'
 | [],[],_,_ => .nil
 | [],_::_,h,_=>by simp at h
 | _::_,[],h,_=>by simp at h
 | a::l,b::l',h,hr => .cons (hr 0 (by simp) (by simp)) (z2d (by simpa using h) fun i h1 h2=>by have:=hr (i+1) (by simpa using h1) (by simpa using h2);simpa using this)
theorem zeq {σ:Store} (c:Cfg) (hc:c.Ok) {lv:AV} (hr:Rd 4 σ (c.ps.map Peer.c) lv) :
 ACalls Try.prog 37 [.agg (c.cV lv)] σ (fun r s=>∃ g,r = .agg ((configK c).cV (.os g 4 0 (configK c).ps.length))∧Store.sub σ s∧σ g=none∧s g=some (.arr 4 ((configK c).ps.map Peer.c))) :=
 (zas c hc hr).mono (by
   rintro r s ⟨v,rfl,h1,h2⟩
   rcases h2 with ⟨e,_⟩ | ⟨g,rfl,h3,h4⟩
   ·have:=(qk c).len
    have e2:=congrArg List.length e
    rw [List.length_map,List.length_nil] at e2
    omega
   ·exact ⟨g,by rw [List.length_map],h1,h3,h4⟩)
end Go.Am
namespace Go.Am
open Go.Proofs Go.Sort
theorem z51 (xs:List AV) (h:TOk Try.prog 4 48 xs):∃ rs:List Rule,ImpL xs [.sl 12 (rs.map Rule.c)]∧(∀ r ∈ rs,r.ok):=by
 obtain ⟨rs,hi,_,ho⟩:=TOk.slI (sz:=12) (by_:=72) Try.underlying48 (by kernel_rfl) (by kernel_rfl) Rule.c Rule.ok zcd h
 exact ⟨rs,hi,ho⟩
theorem zcc (xs:List AV) (h:TOk Try.prog 5 76 xs):∃ p:Peer,ImpL xs p.c∧((∀ r ∈ p.inn,r.ok)∧(∀ r ∈ p.out,r.ok)):=by
 obtain ⟨a1,b1,rfl,h1,a2,b2,rfl,h2,a3,b3,rfl,h3,a4,b4,rfl,h4,rfl⟩:=TOk.struct (ts:=[30,30,48,48]) Try.underlying76 rfl h
 obtain ⟨m1,rfl,_,_⟩:=TOk.int Try.underlying30 h1
 obtain ⟨m2,rfl,_,_⟩:=TOk.int Try.underlying30 h2
 obtain ⟨r3,i3,o3⟩:=z51 _ h3
 obtain ⟨r4,i4,o4⟩:=z51 _ h4
 exact ⟨⟨m1,m2,r3,r4⟩,(ImpL.one rfl).append ((ImpL.one rfl).append (i3.append (i4.append .nil))),o3,o4⟩
theorem zeg (xs:List AV) (h:TOk Try.prog 7 71 xs):∃ c:Cfg,ImpL xs (c.cV (.sl 4 (c.ps.map Peer.c)))∧c.Ok:=by
 obtain ⟨a1,b1,rfl,h1,a2,b2,rfl,h2,a3,b3,rfl,h3,a4,b4,rfl,h4,a5,b5,rfl,h5,a6,b6,rfl,h6,a7,b7,rfl,h7,rfl⟩:=TOk.struct (ts:=[30,30,3,69,3,3,3]) Try.underlying71 rfl h
 obtain ⟨m1,rfl,_,_⟩:=TOk.int Try.underlying30 h1
 obtain ⟨m2,rfl,_,_⟩:=TOk.int Try.underlying30 h2
 obtain ⟨m3,rfl,_,_⟩:=TOk.int Try.underlying3 h3
 obtain ⟨ps,i4,z4,o4⟩:=TOk.slI (sz:=4) (by_:=56) Try.underlying69 (by kernel_rfl) (by kernel_rfl) Peer.c (fun p=>(∀ r ∈ p.inn,r.ok)∧(∀ r ∈ p.out,r.ok)) zcc h4
 obtain ⟨m5,rfl,w1,w2⟩:=TOk.int Try.underlying3 h5
 obtain ⟨m6,rfl,d1,d2⟩:=TOk.int Try.underlying3 h6
 obtain ⟨m7,rfl,_,_⟩:=TOk.int Try.underlying3 h7
 exact ⟨⟨m1,m2,m3,ps,m5,m6,m7⟩,(ImpL.one rfl).append ((ImpL.one rfl).append ((ImpL.one rfl).append (i4.append ((ImpL.one rfl).append ((ImpL.one rfl).append ((ImpL.one rfl).append .nil)))))),⟨w1,w2⟩,⟨d1,d2⟩,z76 (by omega) z4,o4⟩
theorem zf7 {w:World} {a:List AV} {v:Array Value} (hr:VRel (G0 w) w (.agg a) (.agg v)) (h:TOk Try.prog 7 71 a):∃ c:Cfg,VRel (G0 w) w (.agg (c.cV (.sl 4 (c.ps.map Peer.c)))) (.agg v)∧c.Ok:=by
 obtain ⟨r,hi,ho⟩:=zeg _ h
 exact ⟨r,z3j hi hr,ho⟩
def pfC (q:Int×Int):List AV:=[.int .u32 q.1,.int .i64 q.2]
theorem zf6 {w:World} {a:List AV} {v:Array Value} (hr:VRel (G0 w) w (.agg a) (.agg v)) (h:TOk Try.prog 6 73 a):∃ b:PathR,VRel (G0 w) w (.agg b.c) (.agg v)∧(I64 b.peer∧I64 b.a.org∧okNums b.a):=by
 obtain ⟨a1,b1,rfl,h1,a2,b2,rfl,h2,a3,b3,rfl,h3,a4,b4,rfl,h4,a5,b5,rfl,h5,rfl⟩:=TOk.struct (ts:=[3,30,30,4,33]) Try.underlying73 rfl h
 obtain ⟨m1,rfl,w1,w2⟩:=TOk.int Try.underlying3 h1
 obtain ⟨m2,rfl,_,_⟩:=TOk.int Try.underlying30 h2
 obtain ⟨m3,rfl,_,_⟩:=TOk.int Try.underlying30 h3
 obtain ⟨m4,rfl⟩:=TOk.bool Try.underlying4 h4
 obtain ⟨m5,i5,o5⟩:=dAt _ h5
 refine ⟨⟨m1,m2,m3,m4,m5⟩,z3j ?_ hr,⟨w1,w2⟩,o5⟩
 have:=(ImpL.one (x:=AV.int .i64 m1) rfl).append ((ImpL.one (x:=AV.int .u32 m2) rfl).append ((ImpL.one (x:=AV.int .u32 m3) rfl).append ((ImpL.one (x:=AV.bool m4) rfl).append (i5.append .nil))))
 simpa [PathR.c] using this
end Go.Am
namespace Go.Am.Ts28
open Go.Proofs Go.Am.B
def t9_98:BC := .seq (z [f 98 0 7,l 99 1 98,m 100 1,b 101 .eql 99 100,m 102 101,⟨some 103,some (102,false),.pure (.fld 3),[.t 7]⟩,⟨some 104,some (102,false),.load (.ld 1 false),[.t 103]⟩,⟨some 105,some (102,false),.pure (.mov),[.t 104]⟩,⟨some 106,some (105,true),.pure (.mov),[.t 12]⟩,⟨some 107,some (102,false),.pick,[.t 105,.t 106,.c (.bool false)]⟩,⟨some 108,none,.pick,[.t 102,.c (.bool true),.t 107]⟩] [7,9,12,13,14,108] (.cond (.t 108) (z [m 109 14,u 110 .not 109,m 111 110,⟨some 112,some (111,true),.pure (.fld 2),[.t 13]⟩,⟨some 113,some (111,true),.load (.ld 1 false),[.t 112]⟩,⟨some 114,some (111,true),.pure (.bin .eql),[.t 113,.c (.int .u32 0)]⟩,⟨some 115,none,.pick,[.t 111,.t 114,.c (.bool false)]⟩,m 116 115,⟨some 117,some (116,true),.loud (.call 39),[]⟩,⟨some 118,none,.pick,[.t 116,.t 117,.c (.bool false)]⟩,m 8 118] [8] .ret) .skip)) (.seq (z [m 119 14,u 120 .not 119] [7,9,12,13,120] (.cond (.t 120) (z [f 121 4 7,f 122 8 121,l 123 1 122,u 124 .len 123,c 125 .gtr 124 0,m 126 125,⟨some 127,some (126,true),.loud (.call 39),[]⟩,⟨some 128,none,.pick,[.t 126,.t 127,.c (.bool false)]⟩,m 8 128] [8] .ret) .skip)) (.seq (z [⟨some 129,none,.load (.ld 9 true),[.t 13]⟩,g 130 40 [.t 129],u 131 .not 130,m 132 131,⟨some 133,some (132,false),.pure (.fld 0),[.t 13]⟩,⟨some 134,some (132,false),.load (.ld 1 false),[.t 133]⟩,⟨some 135,some (132,false),.pure (.fld 4),[.t 7]⟩,⟨some 136,some (132,false),.pure (.fld 0),[.t 135]⟩,⟨some 137,some (132,false),.load (.ld 1 false),[.t 136]⟩,⟨some 138,some (132,false),.pure (.bin .neq),[.t 134,.t 137]⟩,⟨some 139,none,.pick,[.t 132,.c (.bool true),.t 138]⟩,m 140 139,⟨some 141,some (140,false),.pure (.fld 8),[.t 13]⟩,⟨some 142,some (140,false),.load (.ld 1 false),[.t 141]⟩,⟨some 143,some (140,false),.pure (.len),[.t 142]⟩,⟨some 144,some (140,false),.pure (.fld 4),[.t 7]⟩,⟨some 145,some (140,false),.pure (.fld 8),[.t 144]⟩,⟨some 146,some (140,false),.load (.ld 1 false),[.t 145]⟩,⟨some 147,some (140,false),.pure (.len),[.t 146]⟩,⟨some 148,some (140,false),.pure (.bin .neq),[.t 143,.t 147]⟩,⟨some 149,none,.pick,[.t 140,.c (.bool true),.t 148]⟩] [7,9,12,13,149] (.cond (.t 149) (z [k 8 (.bool false)] [8] .ret) .skip)) (.seq (z [m 150 12] [7,9,13,150] (.cond (.t 150) (z [f 151 5 13,l 152 1 151,m 153 152,⟨some 154,some (153,true),.pure (.fld 2),[.t 13]⟩,⟨some 155,some (153,true),.load (.ld 1 false),[.t 154]⟩,⟨some 156,some (153,true),.pure (.fld 4),[.t 7]⟩,⟨some 157,some (153,true),.pure (.fld 2),[.t 156]⟩,⟨some 158,some (153,true),.load (.ld 1 false),[.t 157]⟩,⟨some 159,some (153,true),.pure (.bin .eql),[.t 155,.t 158]⟩,⟨some 160,none,.pick,[.t 153,.t 159,.c (.bool false)]⟩,m 161 160,⟨some 162,some (161,true),.pure (.fld 1),[.t 13]⟩,⟨some 163,some (161,true),.load (.ld 1 false),[.t 162]⟩,⟨some 164,some (161,true),.pure (.fld 4),[.t 7]⟩,⟨some 165,some (161,true),.pure (.fld 1),[.t 164]⟩,⟨some 166,some (161,true),.load (.ld 1 false),[.t 165]⟩,⟨some 167,some (161,true),.loud (.call 32),[.t 163,.t 166]⟩,⟨some 168,some (161,true),.pure (.bin .eql),[.t 167,.c (.int .i64 0)]⟩,⟨some 169,none,.pick,[.t 161,.t 168,.c (.bool false)]⟩,m 170 169,⟨some 171,some (170,true),.pure (.fld 3),[.t 13]⟩,⟨some 172,some (170,true),.load (.ld 1 false),[.t 171]⟩,⟨some 173,some (170,true),.pure (.fld 4),[.t 7]⟩,⟨some 174,some (170,true),.pure (.fld 3),[.t 173]⟩,⟨some 175,some (170,true),.load (.ld 1 false),[.t 174]⟩,⟨some 176,some (170,true),.pure (.eqb false),[.t 172,.t 175]⟩,⟨some 177,none,.pick,[.t 170,.t 176,.c (.bool false)]⟩,m 178 177,⟨some 179,some (178,true),.loud (.call 39),[]⟩,⟨some 180,none,.pick,[.t 178,.t 179,.c (.bool false)]⟩,m 8 180] [8] .ret) .skip)) (z [f 182 1 13,l 183 1 182,g 184 41 [.t 183],m 181 184,e 185 0 181,e 186 1 181,m 15 185,m 16 186] [7,9,13,15,16] (z [m 187 16,m 188 187,⟨some 189,some (188,true),.pure (.mov),[.t 15]⟩,⟨some 190,some (188,true),.pure (.fld 0),[.t 9]⟩,⟨some 191,some (188,true),.load (.ld 1 false),[.t 190]⟩,⟨some 192,some (188,true),.pure (.bin .eql),[.t 189,.t 191]⟩,⟨some 193,none,.pick,[.t 188,.t 192,.c (.bool false)]⟩,m 194 193,⟨some 195,some (194,true),.pure (.fld 1),[.t 13]⟩,⟨some 198,some (194,true),.pure (.fld 4),[.t 7]⟩,⟨some 199,some (194,true),.pure (.fld 1),[.t 198]⟩,⟨some 196,some (194,true),.load (.ld 1 false),[.t 195]⟩,⟨some 200,some (194,true),.load (.ld 1 false),[.t 199]⟩,⟨some 197,some (194,true),.qcall 29,[.t 196]⟩,⟨some 201,some (194,true),.qcall 29,[.t 200]⟩,⟨some 202,some (194,true),.pure (.bin .add),[.t 201,.c (.int .i64 1)]⟩,⟨some 203,some (194,true),.pure (.bin .eql),[.t 197,.t 202]⟩,⟨some 204,none,.pick,[.t 194,.t 203,.c (.bool false)]⟩,m 205 204,⟨some 206,some (205,true),.pure (.fld 2),[.t 13]⟩,⟨some 208,some (205,true),.pure (.fld 1),[.t 9]⟩,⟨some 207,some (205,true),.load (.ld 1 false),[.t 206]⟩,⟨some 209,some (205,true),.load (.ld 1 false),[.t 208]⟩,⟨some 210,some (205,true),.pure (.bin .eql),[.t 207,.t 209]⟩,⟨some 211,none,.pick,[.t 205,.t 210,.c (.bool false)]⟩,m 212 211,⟨some 213,some (212,true),.pure (.fld 3),[.t 13]⟩,⟨some 214,some (212,true),.load (.ld 1 false),[.t 213]⟩,⟨some 215,some (212,true),.pure (.not),[.t 214]⟩,⟨some 216,none,.pick,[.t 212,.t 215,.c (.bool false)]⟩,m 217 216,⟨some 218,some (217,true),.pure (.fld 5),[.t 13]⟩,⟨some 219,some (217,true),.load (.ld 1 false),[.t 218]⟩,⟨some 220,some (217,true),.pure (.not),[.t 219]⟩,⟨some 221,none,.pick,[.t 217,.t 220,.c (.bool false)]⟩,m 222 221,⟨some 223,some (222,true),.qcall 39,[]⟩,⟨some 224,none,.pick,[.t 222,.t 223,.c (.bool false)]⟩,m 8 224] [8] .ret)))))
def t9_50:BC:=z [f 50 0 7,l 51 1 50,m 52 11,b 53 .rem 51 52,f 54 0 7,s 1 54 53] [1,6,7,9] (z [f 55 3 9,f 57 0 7,f 62 0 9,l 56 1 55,l 58 1 57,x 59 4 56 58,f 60 0 59,l 61 1 60,l 63 1 62,b 64 .eql 61 63,f 65 3 7,s 1 65 64] [1,6,7,9] (z [f 66 4 7,f 68 3 9,f 70 0 7,⟨some 67,none,.load (.ld 9 true),[.t 66]⟩,l 69 1 68,l 71 1 70,x 72 4 69 71,f 73 0 72,l 74 1 73,g 75 25 [.t 67,.t 74],f 76 4 7,s 9 76 75] [1,6,7,9] (z [f 77 3 9,m 79 1,f 83 0 9,l 78 1 77,x 80 4 78 79,f 81 0 80,l 82 1 81,l 84 1 83,b 85 .eql 82 84,m 12 85] [1,6,7,9,12] (z [m 88 1,f 89 0 6,f 91 1 6,⟨some 87,none,.load (.ld 7 true),[.t 9]⟩,l 90 1 89,l 92 1 91,⟨some 94,none,.load (.ld 13 true),[.t 7]⟩,⟨some 93,none,.qcall 24,[.t 90,.t 92]⟩,⟨some 95,none,.qcall 38,[.t 87,.t 88,.t 93,.t 94]⟩,m 86 95,e 96 0 86,e 97 1 86,⟨some 13,none,.alloc (.alloc [(.int .i64 0),.nils,(.int .u32 0),(.bool false),(.int .u32 0),(.bool false),(.int .u32 0),(.bool false),.nils]),[]⟩,s 9 13 96,m 14 97] [1,7,9,12,13,14] t9_98))))
def t9_39:BC:=z [m 39 1,m 40 11,b 41 .rem 39 40,m 1 41] [1,6,7,9,11] (.seq (z [f 42 0 7,l 43 1 42,c 44 .lss 43 0] [1,6,7,9,11,44] (.cond (.t 44) (.ops [f 45 0 7,l 46 1 45,c 47 .add 46 1,u 48 .neg 47,f 49 0 7,s 1 49 48] [1,6,7,9,11]) .skip)) t9_50)
def b9:BC:=z [⟨some 4,none,.alloc (.box),[.t 0]⟩,⟨some 6,none,.alloc (.box),[.t 2]⟩,⟨some 7,none,.alloc (.box),[.t 3]⟩,k 8 (.bool false)] [1,4,6,7] (z [⟨some 17,none,.load (.ld 7 true),[.t 4]⟩,g 18 37 [.t 17],⟨some 9,none,.alloc (.alloc [(.int .u32 0),(.int .u32 0),(.int .i64 0),.nils,(.int .i64 0),(.int .i64 0),(.int .i64 0)]),[]⟩,s 7 9 18] [1,6,7,9] (.seq (z [j 10 0] [1,6,7,9,10] (.block 0 (.loop [1,6,7,9,10] (.seq (z [m 19 10,f 20 3 9,l 21 1 20,u 22 .len 21,b 23 .lss 19 22] [1,6,7,9,10,23] (.cond (.t 23) .skip (.exit 0))) (.seq (.block 1 (.ops [f 26 3 9,l 27 1 26,m 28 10,x 29 4 27 28,f 30 3 29,⟨none,none,.loud (.st 1),[.t 30,.c .nils]⟩] [1,6,7,9,10])) (.ops [m 24 10,c 25 .add 24 1,m 10 25] [1,6,7,9,10])))))) (.seq (.wk 6 (.ops [f 31 3 9,l 32 1 31,u 33 .len 32,m 11 33] [1,6,7,9,11])) (.seq (z [m 34 1,c 35 .lss 34 0] [1,6,7,9,11,35] (.cond (.t 35) (.ops [m 36 1,c 37 .add 36 1,u 38 .neg 37,m 1 38] [1,6,7,9,11]) .skip)) t9_39))))
end Go.Am.Ts28
namespace Go.Am
open Go.Proofs Go.Sort
def Cfg.put (c:Cfg) (j:Nat) (hj:j<c.ps.length) (o:List Rule):Cfg:={ c with ps:=c.ps.set j { c.ps[j] with out:=o } }
theorem wo (c:Cfg) (j:Nat) (hj:j<c.ps.length) (o:List Rule):(c.put j hj o).ps.length=c.ps.length:=by simp [Cfg.put]
theorem xp (c:Cfg) (j:Nat) (hj:j<c.ps.length) (o:List Rule) (h:j<(c.put j hj o).ps.length):(c.put j hj o).ps[j]={ c.ps[j] with out:=o }:=by simp [Cfg.put]
theorem um {c:Cfg} (h:Kept c) (j:Nat) (hj:j<c.ps.length) (o:List Rule) (ho:rulesOk o=true):Kept (c.put j hj o):=by
 refine ⟨h.asn,h.id,h.hold,h.wd,h.dp,h.rm,by rw [wo];exact h.len,fun i hi => ?_⟩
 rw [wo] at hi
 have e:(c.put j hj o).ps[i]'(by rw [wo];exact hi)=if j=i then { c.ps[j] with out:=o } else c.ps[i]:=by simp only [Cfg.put];rw [List.getElem_set]
 rw [e]
 split
 ·rename_i e;subst e
  obtain ⟨h1,h2,h3,_⟩:=h.ps j hj
  exact ⟨h1,h2,h3,ho⟩
 ·exact h.ps i hi
theorem z8y {c:Cfg} {j:Nat} (hj:j<c.ps.length) {q:Int×Int} {b:PathR} (hn:∀ a,(applyA c.ps[j].out c.asn q a).2=false):(toldA c j q b).2=false:=by
 unfold toldA
 split
 ·rw [Int.toNat_natCast,List.getElem?_eq_getElem hj]
  simp only
  split
  ·unfold tailT
   rw [if_neg (fun h=>by have:=h.1;rw [hn] at this;cases this)]
  ·rfl
 ·rfl
theorem z8x {c c':Cfg} {j:Nat} (hj:j<c.ps.length) (hj':j<c'.ps.length) {q:Int×Int} {b:PathR} (h0:chkA c=chkA c') (ha:c.asn=c'.asn) (hi:c.id=c'.id) (hp:c.ps[j].asn=c'.ps[j].asn) (ho:∀ a,applyA c.ps[j].out c.asn q a=applyA c'.ps[j].out c.asn q a):toldA c j q b=toldA c' j q b:=by
 unfold toldA
 rw [h0,Int.toNat_natCast,List.getElem?_eq_getElem hj,List.getElem?_eq_getElem hj']
 have hin:innerA c c.ps[j]=innerA c' c'.ps[j]:=by unfold innerA;rw [hp,ha]
 have hh:hiddenA c j c.ps[j] b=hiddenA c' j c'.ps[j] b:=by unfold hiddenA;rw [hin]
 have hs:startT c c.ps[j] b.a=startT c' c'.ps[j] b.a:=by unfold startT;rw [hin,ha,hi]
 have ht:∀ a,tailT c c.ps[j] q a=tailT c' c'.ps[j] q a:=fun a=>by
  unfold tailT lastT
  rw [hin,ho,ha]
 simp only [hh,hs,ht]
def ruleV:Rule:=⟨0,0,0,32,0,true,false,0,false,0,0,0⟩
def ruleW:Rule:=⟨2147483648,1,0,32,0,true,false,0,false,0,0,0⟩
theorem ze5:∀ (i:Fin 64) (j:Fin 7),hasF 2147483648 1 (ofF (bitInt .or .u32 167772160 (shlInt .u32 (i.val:Int) 18)) (8+(j.val:Int))).1=false:=by decide+kernel
theorem z73 (x n:Int) (hx:0≤x) (a:At):matchF ruleW (prefixF x n) a=false:=by
 have h:=ze5 ⟨(x % 64).toNat,by omega⟩ ⟨(n % 7).toNat,by omega⟩
 simp only at h
 rw [show (((x % 64).toNat:Nat):Int)=Int.tmod x 64 by rw [Int.tmod_eq_emod_of_nonneg hx];omega,show (((n % 7).toNat:Nat):Int)=n % 7 by omega] at h
 have hc:coversF (2147483648,1) (prefixF x n)=false:=by
  unfold coversF prefixF
  simp only
  rw [h]
  simp
 unfold matchF
 rw [show coversF (ruleW.ad,ruleW.ln) (prefixF x n)=false from hc]
 rfl
theorem za8 (x:Int) (q:Int×Int) (hq:rightF q.1 q.2=true) (a:At):(applyA [ruleV] x q a).2=false:=by
 unfold applyA
 rw [List.find?_cons,z4s ruleV q a rfl rfl rfl rfl rfl hq]
 rfl
theorem za9 (y:Int) (x n:Int) (hx:0≤x) (a:At):applyA [] y (prefixF x n) a=applyA [ruleW] y (prefixF x n) a:=by
 unfold applyA
 rw [List.find?_cons,z73 x n hx a]
 try rfl
theorem okX:rulesOk [ruleV]=true:=by decide+kernel
theorem okZ:rulesOk [ruleW]=true:=by decide+kernel
end Go.Am
namespace Go.Am.Ts29
open Go.Proofs Go.Am.B
def t11_41:BC:=z [⟨some 41,none,.alloc (.mksl 4 0),[]⟩,f 42 3 7,l 43 1 42,⟨some 44,none,.loud (.app 4 56),[.t 41,.t 43]⟩,f 45 3 10,s 1 45 44] [5,7,8,9,10,11,12] (z [⟨some 46,none,.alloc (.mksl 4 0),[]⟩,f 47 3 7,l 48 1 47,⟨some 49,none,.loud (.app 4 56),[.t 46,.t 48]⟩,f 50 3 11,s 1 50 49] [5,7,8,9,10,11,12] (z [⟨some 51,none,.alloc (.mksl 4 0),[]⟩,f 52 3 7,l 53 1 52,⟨some 54,none,.loud (.app 4 56),[.t 51,.t 53]⟩,f 55 3 12,s 1 55 54] [5,7,8,9,10,11,12] (z [f 56 3 10,l 57 1 56,m 58 9,p 59 (.build [(.int .u32 0),(.int .i64 0),(.int .i64 0),(.int .i64 0),(.int .u32 0),(.bool false),(.bool false),(.int .u32 0),(.bool false),(.int .u32 0),(.int .i64 0),(.int .u32 0)] [(3,1),(5,1)]) [.c (.int .i64 32),.c (.bool true)],⟨some 60,none,.alloc (.mksl 12 1),[.t 59]⟩,x 61 4 57 58,f 62 3 61,s 1 62 60] [5,7,8,9,10,11,12] (z [f 63 3 11,l 64 1 63,m 65 9,x 66 4 64 65,f 67 3 66,⟨none,none,.loud (.st 1),[.t 67,.c .nils]⟩] [5,7,8,9,10,11,12] (z [f 68 3 12,l 69 1 68,m 70 9,p 71 (.build [(.int .u32 0),(.int .i64 0)] [(0,1),(1,1)]) [.c (.int .u32 2147483648),.c (.int .i64 1)],p 72 (.build [(.int .u32 0),(.int .i64 0),(.int .i64 0),(.int .i64 0),(.int .u32 0),(.bool false),(.bool false),(.int .u32 0),(.bool false),(.int .u32 0),(.int .i64 0),(.int .u32 0)] [(0,2),(3,1),(5,1)]) [.t 71,.c (.int .i64 32),.c (.bool true)],⟨some 73,none,.alloc (.mksl 12 1),[.t 72]⟩,x 74 4 69 70,f 75 3 74,s 1 75 73] [5,7,8,9,10,11,12] (.seq (.wk 15 (.ops [⟨some 77,none,.load (.ld 7 true),[.t 10]⟩,m 78 9,⟨some 79,none,.load (.ld 2 true),[.t 8]⟩,⟨some 80,none,.load (.ld 13 true),[.t 5]⟩,g 81 38 [.t 77,.t 78,.t 79,.t 80],m 76 81,e 82 0 76,e 83 1 76,⟨some 13,none,.alloc (.alloc [(.int .i64 0),.nils,(.int .u32 0),(.bool false),(.int .u32 0),(.bool false),(.int .u32 0),(.bool false),.nils]),[]⟩,s 9 13 82,m 14 83] [5,7,8,9,11,12,14])) (z [⟨some 85,none,.load (.ld 7 true),[.t 11]⟩,m 86 9,⟨some 87,none,.load (.ld 2 true),[.t 8]⟩,⟨some 88,none,.load (.ld 13 true),[.t 5]⟩,g 89 38 [.t 85,.t 86,.t 87,.t 88],m 84 89,e 90 0 84,e 91 1 84,⟨some 15,none,.alloc (.alloc [(.int .i64 0),.nils,(.int .u32 0),(.bool false),(.int .u32 0),(.bool false),(.int .u32 0),(.bool false),.nils]),[]⟩,s 9 15 90,m 16 91] [5,7,8,9,12,14,15,16] (z [⟨some 93,none,.load (.ld 7 true),[.t 12]⟩,m 94 9,⟨some 95,none,.load (.ld 2 true),[.t 8]⟩,⟨some 96,none,.load (.ld 13 true),[.t 5]⟩,g 97 38 [.t 93,.t 94,.t 95,.t 96],m 92 97,e 98 0 92,e 99 1 92,⟨some 17,none,.alloc (.alloc [(.int .i64 0),.nils,(.int .u32 0),(.bool false),(.int .u32 0),(.bool false),(.int .u32 0),(.bool false),.nils]),[]⟩,s 9 17 98,m 18 99] [5,7,8,9,14,15,16,17,18] (z [m 100 14,m 101 100,⟨some 102,some (101,false),.pure (.mov),[.t 16]⟩,⟨some 103,some (101,false),.pure (.mov),[.t 18]⟩,⟨some 104,some (101,false),.pure (.eqb true),[.t 102,.t 103]⟩,⟨some 105,none,.pick,[.t 101,.c (.bool true),.t 104]⟩,m 106 105,⟨some 107,some (106,false),.load (.ld 9 true),[.t 15]⟩,⟨some 108,some (106,false),.load (.ld 9 true),[.t 17]⟩,⟨some 109,some (106,false),.loud (.call 18),[.t 107,.t 108]⟩,⟨some 110,some (106,false),.pure (.not),[.t 109]⟩,⟨some 111,none,.pick,[.t 106,.c (.bool true),.t 110]⟩] [5,7,8,9,111] (.cond (.t 111) (z [k 6 (.bool false)] [6] .ret) .skip))))))))))
def b11:BC:=z [⟨some 3,none,.alloc (.box),[.t 0]⟩,⟨some 4,none,.alloc (.box),[.t 1]⟩,⟨some 5,none,.alloc (.box),[.t 2]⟩,k 6 (.bool false)] [3,4,5] (z [⟨some 19,none,.load (.ld 7 true),[.t 3]⟩,g 20 37 [.t 19],⟨some 7,none,.alloc (.alloc [(.int .u32 0),(.int .u32 0),(.int .i64 0),.nils,(.int .i64 0),(.int .i64 0),(.int .i64 0)]),[]⟩,s 7 7 20] [4,5,7] (z [f 21 0 4,l 22 1 21,f 23 1 4,l 24 1 23,g 25 24 [.t 22,.t 24],⟨some 8,none,.alloc (.alloc [(.int .u32 0),(.int .i64 0)]),[]⟩,s 2 8 25] [5,7,8] (z [f 26 0 5,⟨none,none,.loud (.st 1),[.t 26,.c (.int .i64 (-1))]⟩] [5,7,8] (z [f 27 4 5,⟨some 28,none,.load (.ld 9 true),[.t 27]⟩,g 29 25 [.t 28,.c (.int .u32 65001)],f 30 4 5,s 9 30 29] [5,7,8] (.seq (z [j 9 0] [5,7,8,9] (.block 0 (.loop [5,7,8,9] (.seq (z [m 31 9,f 32 3 7,l 33 1 32,u 34 .len 33,b 35 .lss 31 34] [5,7,8,9,35] (.cond (.t 35) .skip (.exit 0))) (.seq (.block 1 (.seq (z [⟨some 38,none,.load (.ld 7 true),[.t 7]⟩] [5,7,8,9,38] (.both (z [⟨some 39,none,.load (.ld 7 true),[.t 7]⟩] [5,7,8,9,38,39] (.both (z [⟨some 40,none,.load (.ld 7 true),[.t 7]⟩] [5,7,8,9,38,39,40] (z [⟨some 10,none,.alloc (.alloc [(.int .u32 0),(.int .u32 0),(.int .i64 0),.nils,(.int .i64 0),(.int .i64 0),(.int .i64 0)]),[]⟩] [5,7,8,9,10,38,39,40] (z [⟨some 11,none,.alloc (.alloc [(.int .u32 0),(.int .u32 0),(.int .i64 0),.nils,(.int .i64 0),(.int .i64 0),(.int .i64 0)]),[]⟩] [5,7,8,9,10,11,38,39,40] (z [⟨some 12,none,.alloc (.alloc [(.int .u32 0),(.int .u32 0),(.int .i64 0),.nils,(.int .i64 0),(.int .i64 0),(.int .i64 0)]),[]⟩] [5,7,8,9,10,11,12,38,39,40] (z [s 7 10 38] [5,7,8,9,10,11,12,39,40] (z [s 7 11 39] [5,7,8,9,10,11,12,40] (z [s 7 12 40] [5,7,8,9,10,11,12] (.ops [] [5,7,8,9,10,11,12])))))))) (.both (z [⟨some 10,none,.alloc (.alloc [(.int .u32 0),(.int .u32 0),(.int .i64 0),.nils,(.int .i64 0),(.int .i64 0),(.int .i64 0)]),[]⟩] [5,7,8,9,10,38,39] (.both (z [⟨some 40,none,.load (.ld 7 true),[.t 7]⟩] [5,7,8,9,10,38,39,40] (z [⟨some 11,none,.alloc (.alloc [(.int .u32 0),(.int .u32 0),(.int .i64 0),.nils,(.int .i64 0),(.int .i64 0),(.int .i64 0)]),[]⟩] [5,7,8,9,10,11,38,39,40] (z [⟨some 12,none,.alloc (.alloc [(.int .u32 0),(.int .u32 0),(.int .i64 0),.nils,(.int .i64 0),(.int .i64 0),(.int .i64 0)]),[]⟩] [5,7,8,9,10,11,12,38,39,40] (z [s 7 10 38] [5,7,8,9,10,11,12,39,40] (z [s 7 11 39] [5,7,8,9,10,11,12,40] (z [s 7 12 40] [5,7,8,9,10,11,12] (.ops [] [5,7,8,9,10,11,12]))))))) (.both (z [⟨some 11,none,.alloc (.alloc [(.int .u32 0),(.int .u32 0),(.int .i64 0),.nils,(.int .i64 0),(.int .i64 0),(.int .i64 0)]),[]⟩] [5,7,8,9,10,11,38,39] (.both (z [⟨some 40,none,.load (.ld 7 true),[.t 7]⟩] [5,7,8,9,10,11,38,39,40] (z [⟨some 12,none,.alloc (.alloc [(.int .u32 0),(.int .u32 0),(.int .i64 0),.nils,(.int .i64 0),(.int .i64 0),(.int .i64 0)]),[]⟩] [5,7,8,9,10,11,12,38,39,40] (z [s 7 10 38] [5,7,8,9,10,11,12,39,40] (z [s 7 11 39] [5,7,8,9,10,11,12,40] (z [s 7 12 40] [5,7,8,9,10,11,12] (.ops [] [5,7,8,9,10,11,12])))))) (.both (z [⟨some 12,none,.alloc (.alloc [(.int .u32 0),(.int .u32 0),(.int .i64 0),.nils,(.int .i64 0),(.int .i64 0),(.int .i64 0)]),[]⟩] [5,7,8,9,10,11,12,38,39] (.both (z [⟨some 40,none,.load (.ld 7 true),[.t 7]⟩] [5,7,8,9,10,11,12,38,39,40] (z [s 7 10 38] [5,7,8,9,10,11,12,39,40] (z [s 7 11 39] [5,7,8,9,10,11,12,40] (z [s 7 12 40] [5,7,8,9,10,11,12] (.ops [] [5,7,8,9,10,11,12]))))) (.both (z [s 7 10 38] [5,7,8,9,10,11,12,39] (.both (z [⟨some 40,none,.load (.ld 7 true),[.t 7]⟩] [5,7,8,9,10,11,12,39,40] (z [s 7 11 39] [5,7,8,9,10,11,12,40] (z [s 7 12 40] [5,7,8,9,10,11,12] (.ops [] [5,7,8,9,10,11,12])))) (.both (z [s 7 11 39] [5,7,8,9,10,11,12] (z [⟨some 40,none,.load (.ld 7 true),[.t 7]⟩] [5,7,8,9,10,11,12,40] (z [s 7 12 40] [5,7,8,9,10,11,12] (.ops [] [5,7,8,9,10,11,12])))) (.top)))) (.top)))) (.top)))) (.both (z [⟨some 12,none,.alloc (.alloc [(.int .u32 0),(.int .u32 0),(.int .i64 0),.nils,(.int .i64 0),(.int .i64 0),(.int .i64 0)]),[]⟩] [5,7,8,9,10,12,38,39] (.both (z [⟨some 40,none,.load (.ld 7 true),[.t 7]⟩] [5,7,8,9,10,12,38,39,40] (z [⟨some 11,none,.alloc (.alloc [(.int .u32 0),(.int .u32 0),(.int .i64 0),.nils,(.int .i64 0),(.int .i64 0),(.int .i64 0)]),[]⟩] [5,7,8,9,10,11,12,38,39,40] (z [s 7 10 38] [5,7,8,9,10,11,12,39,40] (z [s 7 11 39] [5,7,8,9,10,11,12,40] (z [s 7 12 40] [5,7,8,9,10,11,12] (.ops [] [5,7,8,9,10,11,12])))))) (.both (z [⟨some 11,none,.alloc (.alloc [(.int .u32 0),(.int .u32 0),(.int .i64 0),.nils,(.int .i64 0),(.int .i64 0),(.int .i64 0)]),[]⟩] [5,7,8,9,10,11,12,38,39] (.both (z [⟨some 40,none,.load (.ld 7 true),[.t 7]⟩] [5,7,8,9,10,11,12,38,39,40] (z [s 7 10 38] [5,7,8,9,10,11,12,39,40] (z [s 7 11 39] [5,7,8,9,10,11,12,40] (z [s 7 12 40] [5,7,8,9,10,11,12] (.ops [] [5,7,8,9,10,11,12]))))) (.both (z [s 7 10 38] [5,7,8,9,10,11,12,39] (.both (z [⟨some 40,none,.load (.ld 7 true),[.t 7]⟩] [5,7,8,9,10,11,12,39,40] (z [s 7 11 39] [5,7,8,9,10,11,12,40] (z [s 7 12 40] [5,7,8,9,10,11,12] (.ops [] [5,7,8,9,10,11,12])))) (.both (z [s 7 11 39] [5,7,8,9,10,11,12] (z [⟨some 40,none,.load (.ld 7 true),[.t 7]⟩] [5,7,8,9,10,11,12,40] (z [s 7 12 40] [5,7,8,9,10,11,12] (.ops [] [5,7,8,9,10,11,12])))) (.top)))) (.top)))) (.top)))) (.top))))) (.both (z [⟨some 11,none,.alloc (.alloc [(.int .u32 0),(.int .u32 0),(.int .i64 0),.nils,(.int .i64 0),(.int .i64 0),(.int .i64 0)]),[]⟩] [5,7,8,9,11,38,39] (.both (z [⟨some 40,none,.load (.ld 7 true),[.t 7]⟩] [5,7,8,9,11,38,39,40] (z [⟨some 10,none,.alloc (.alloc [(.int .u32 0),(.int .u32 0),(.int .i64 0),.nils,(.int .i64 0),(.int .i64 0),(.int .i64 0)]),[]⟩] [5,7,8,9,10,11,38,39,40] (z [⟨some 12,none,.alloc (.alloc [(.int .u32 0),(.int .u32 0),(.int .i64 0),.nils,(.int .i64 0),(.int .i64 0),(.int .i64 0)]),[]⟩] [5,7,8,9,10,11,12,38,39,40] (z [s 7 10 38] [5,7,8,9,10,11,12,39,40] (z [s 7 11 39] [5,7,8,9,10,11,12,40] (z [s 7 12 40] [5,7,8,9,10,11,12] (.ops [] [5,7,8,9,10,11,12]))))))) (.both (z [⟨some 10,none,.alloc (.alloc [(.int .u32 0),(.int .u32 0),(.int .i64 0),.nils,(.int .i64 0),(.int .i64 0),(.int .i64 0)]),[]⟩] [5,7,8,9,10,11,38,39] (.both (z [⟨some 40,none,.load (.ld 7 true),[.t 7]⟩] [5,7,8,9,10,11,38,39,40] (z [⟨some 12,none,.alloc (.alloc [(.int .u32 0),(.int .u32 0),(.int .i64 0),.nils,(.int .i64 0),(.int .i64 0),(.int .i64 0)]),[]⟩] [5,7,8,9,10,11,12,38,39,40] (z [s 7 10 38] [5,7,8,9,10,11,12,39,40] (z [s 7 11 39] [5,7,8,9,10,11,12,40] (z [s 7 12 40] [5,7,8,9,10,11,12] (.ops [] [5,7,8,9,10,11,12])))))) (.both (z [⟨some 12,none,.alloc (.alloc [(.int .u32 0),(.int .u32 0),(.int .i64 0),.nils,(.int .i64 0),(.int .i64 0),(.int .i64 0)]),[]⟩] [5,7,8,9,10,11,12,38,39] (.both (z [⟨some 40,none,.load (.ld 7 true),[.t 7]⟩] [5,7,8,9,10,11,12,38,39,40] (z [s 7 10 38] [5,7,8,9,10,11,12,39,40] (z [s 7 11 39] [5,7,8,9,10,11,12,40] (z [s 7 12 40] [5,7,8,9,10,11,12] (.ops [] [5,7,8,9,10,11,12]))))) (.both (z [s 7 10 38] [5,7,8,9,10,11,12,39] (.both (z [⟨some 40,none,.load (.ld 7 true),[.t 7]⟩] [5,7,8,9,10,11,12,39,40] (z [s 7 11 39] [5,7,8,9,10,11,12,40] (z [s 7 12 40] [5,7,8,9,10,11,12] (.ops [] [5,7,8,9,10,11,12])))) (.both (z [s 7 11 39] [5,7,8,9,10,11,12] (z [⟨some 40,none,.load (.ld 7 true),[.t 7]⟩] [5,7,8,9,10,11,12,40] (z [s 7 12 40] [5,7,8,9,10,11,12] (.ops [] [5,7,8,9,10,11,12])))) (.top)))) (.top)))) (.top)))) (.both (z [⟨some 12,none,.alloc (.alloc [(.int .u32 0),(.int .u32 0),(.int .i64 0),.nils,(.int .i64 0),(.int .i64 0),(.int .i64 0)]),[]⟩] [5,7,8,9,11,12,38,39] (.both (z [⟨some 40,none,.load (.ld 7 true),[.t 7]⟩] [5,7,8,9,11,12,38,39,40] (z [⟨some 10,none,.alloc (.alloc [(.int .u32 0),(.int .u32 0),(.int .i64 0),.nils,(.int .i64 0),(.int .i64 0),(.int .i64 0)]),[]⟩] [5,7,8,9,10,11,12,38,39,40] (z [s 7 10 38] [5,7,8,9,10,11,12,39,40] (z [s 7 11 39] [5,7,8,9,10,11,12,40] (z [s 7 12 40] [5,7,8,9,10,11,12] (.ops [] [5,7,8,9,10,11,12])))))) (.both (z [⟨some 10,none,.alloc (.alloc [(.int .u32 0),(.int .u32 0),(.int .i64 0),.nils,(.int .i64 0),(.int .i64 0),(.int .i64 0)]),[]⟩] [5,7,8,9,10,11,12,38,39] (.both (z [⟨some 40,none,.load (.ld 7 true),[.t 7]⟩] [5,7,8,9,10,11,12,38,39,40] (z [s 7 10 38] [5,7,8,9,10,11,12,39,40] (z [s 7 11 39] [5,7,8,9,10,11,12,40] (z [s 7 12 40] [5,7,8,9,10,11,12] (.ops [] [5,7,8,9,10,11,12]))))) (.both (z [s 7 10 38] [5,7,8,9,10,11,12,39] (.both (z [⟨some 40,none,.load (.ld 7 true),[.t 7]⟩] [5,7,8,9,10,11,12,39,40] (z [s 7 11 39] [5,7,8,9,10,11,12,40] (z [s 7 12 40] [5,7,8,9,10,11,12] (.ops [] [5,7,8,9,10,11,12])))) (.both (z [s 7 11 39] [5,7,8,9,10,11,12] (z [⟨some 40,none,.load (.ld 7 true),[.t 7]⟩] [5,7,8,9,10,11,12,40] (z [s 7 12 40] [5,7,8,9,10,11,12] (.ops [] [5,7,8,9,10,11,12])))) (.top)))) (.top)))) (.top)))) (.top))))) (.both (z [⟨some 12,none,.alloc (.alloc [(.int .u32 0),(.int .u32 0),(.int .i64 0),.nils,(.int .i64 0),(.int .i64 0),(.int .i64 0)]),[]⟩] [5,7,8,9,12,38,39] (.both (z [⟨some 40,none,.load (.ld 7 true),[.t 7]⟩] [5,7,8,9,12,38,39,40] (z [⟨some 10,none,.alloc (.alloc [(.int .u32 0),(.int .u32 0),(.int .i64 0),.nils,(.int .i64 0),(.int .i64 0),(.int .i64 0)]),[]⟩] [5,7,8,9,10,12,38,39,40] (z [⟨some 11,none,.alloc (.alloc [(.int .u32 0),(.int .u32 0),(.int .i64 0),.nils,(.int .i64 0),(.int .i64 0),(.int .i64 0)]),[]⟩] [5,7,8,9,10,11,12,38,39,40] (z [s 7 10 38] [5,7,8,9,10,11,12,39,40] (z [s 7 11 39] [5,7,8,9,10,11,12,40] (z [s 7 12 40] [5,7,8,9,10,11,12] (.ops [] [5,7,8,9,10,11,12]))))))) (.both (z [⟨some 10,none,.alloc (.alloc [(.int .u32 0),(.int .u32 0),(.int .i64 0),.nils,(.int .i64 0),(.int .i64 0),(.int .i64 0)]),[]⟩] [5,7,8,9,10,12,38,39] (.both (z [⟨some 40,none,.load (.ld 7 true),[.t 7]⟩] [5,7,8,9,10,12,38,39,40] (z [⟨some 11,none,.alloc (.alloc [(.int .u32 0),(.int .u32 0),(.int .i64 0),.nils,(.int .i64 0),(.int .i64 0),(.int .i64 0)]),[]⟩] [5,7,8,9,10,11,12,38,39,40] (z [s 7 10 38] [5,7,8,9,10,11,12,39,40] (z [s 7 11 39] [5,7,8,9,10,11,12,40] (z [s 7 12 40] [5,7,8,9,10,11,12] (.ops [] [5,7,8,9,10,11,12])))))) (.both (z [⟨some 11,none,.alloc (.alloc [(.int .u32 0),(.int .u32 0),(.int .i64 0),.nils,(.int .i64 0),(.int .i64 0),(.int .i64 0)]),[]⟩] [5,7,8,9,10,11,12,38,39] (.both (z [⟨some 40,none,.load (.ld 7 true),[.t 7]⟩] [5,7,8,9,10,11,12,38,39,40] (z [s 7 10 38] [5,7,8,9,10,11,12,39,40] (z [s 7 11 39] [5,7,8,9,10,11,12,40] (z [s 7 12 40] [5,7,8,9,10,11,12] (.ops [] [5,7,8,9,10,11,12]))))) (.both (z [s 7 10 38] [5,7,8,9,10,11,12,39] (.both (z [⟨some 40,none,.load (.ld 7 true),[.t 7]⟩] [5,7,8,9,10,11,12,39,40] (z [s 7 11 39] [5,7,8,9,10,11,12,40] (z [s 7 12 40] [5,7,8,9,10,11,12] (.ops [] [5,7,8,9,10,11,12])))) (.both (z [s 7 11 39] [5,7,8,9,10,11,12] (z [⟨some 40,none,.load (.ld 7 true),[.t 7]⟩] [5,7,8,9,10,11,12,40] (z [s 7 12 40] [5,7,8,9,10,11,12] (.ops [] [5,7,8,9,10,11,12])))) (.top)))) (.top)))) (.top)))) (.both (z [⟨some 11,none,.alloc (.alloc [(.int .u32 0),(.int .u32 0),(.int .i64 0),.nils,(.int .i64 0),(.int .i64 0),(.int .i64 0)]),[]⟩] [5,7,8,9,11,12,38,39] (.both (z [⟨some 40,none,.load (.ld 7 true),[.t 7]⟩] [5,7,8,9,11,12,38,39,40] (z [⟨some 10,none,.alloc (.alloc [(.int .u32 0),(.int .u32 0),(.int .i64 0),.nils,(.int .i64 0),(.int .i64 0),(.int .i64 0)]),[]⟩] [5,7,8,9,10,11,12,38,39,40] (z [s 7 10 38] [5,7,8,9,10,11,12,39,40] (z [s 7 11 39] [5,7,8,9,10,11,12,40] (z [s 7 12 40] [5,7,8,9,10,11,12] (.ops [] [5,7,8,9,10,11,12])))))) (.both (z [⟨some 10,none,.alloc (.alloc [(.int .u32 0),(.int .u32 0),(.int .i64 0),.nils,(.int .i64 0),(.int .i64 0),(.int .i64 0)]),[]⟩] [5,7,8,9,10,11,12,38,39] (.both (z [⟨some 40,none,.load (.ld 7 true),[.t 7]⟩] [5,7,8,9,10,11,12,38,39,40] (z [s 7 10 38] [5,7,8,9,10,11,12,39,40] (z [s 7 11 39] [5,7,8,9,10,11,12,40] (z [s 7 12 40] [5,7,8,9,10,11,12] (.ops [] [5,7,8,9,10,11,12]))))) (.both (z [s 7 10 38] [5,7,8,9,10,11,12,39] (.both (z [⟨some 40,none,.load (.ld 7 true),[.t 7]⟩] [5,7,8,9,10,11,12,39,40] (z [s 7 11 39] [5,7,8,9,10,11,12,40] (z [s 7 12 40] [5,7,8,9,10,11,12] (.ops [] [5,7,8,9,10,11,12])))) (.both (z [s 7 11 39] [5,7,8,9,10,11,12] (z [⟨some 40,none,.load (.ld 7 true),[.t 7]⟩] [5,7,8,9,10,11,12,40] (z [s 7 12 40] [5,7,8,9,10,11,12] (.ops [] [5,7,8,9,10,11,12])))) (.top)))) (.top)))) (.top)))) (.top))))) (.top)))))) (.both (z [⟨some 40,none,.load (.ld 7 true),[.t 7]⟩] [5,7,8,9,38,40] (.both (z [⟨some 39,none,.load (.ld 7 true),[.t 7]⟩] [5,7,8,9,38,39,40] (z [⟨some 10,none,.alloc (.alloc [(.int .u32 0),(.int .u32 0),(.int .i64 0),.nils,(.int .i64 0),(.int .i64 0),(.int .i64 0)]),[]⟩] [5,7,8,9,10,38,39,40] (z [⟨some 11,none,.alloc (.alloc [(.int .u32 0),(.int .u32 0),(.int .i64 0),.nils,(.int .i64 0),(.int .i64 0),(.int .i64 0)]),[]⟩] [5,7,8,9,10,11,38,39,40] (z [⟨some 12,none,.alloc (.alloc [(.int .u32 0),(.int .u32 0),(.int .i64 0),.nils,(.int .i64 0),(.int .i64 0),(.int .i64 0)]),[]⟩] [5,7,8,9,10,11,12,38,39,40] (z [s 7 10 38] [5,7,8,9,10,11,12,39,40] (z [s 7 11 39] [5,7,8,9,10,11,12,40] (z [s 7 12 40] [5,7,8,9,10,11,12] (.ops [] [5,7,8,9,10,11,12])))))))) (.both (z [⟨some 10,none,.alloc (.alloc [(.int .u32 0),(.int .u32 0),(.int .i64 0),.nils,(.int .i64 0),(.int .i64 0),(.int .i64 0)]),[]⟩] [5,7,8,9,10,38,40] (.both (z [⟨some 39,none,.load (.ld 7 true),[.t 7]⟩] [5,7,8,9,10,38,39,40] (z [⟨some 11,none,.alloc (.alloc [(.int .u32 0),(.int .u32 0),(.int .i64 0),.nils,(.int .i64 0),(.int .i64 0),(.int .i64 0)]),[]⟩] [5,7,8,9,10,11,38,39,40] (z [⟨some 12,none,.alloc (.alloc [(.int .u32 0),(.int .u32 0),(.int .i64 0),.nils,(.int .i64 0),(.int .i64 0),(.int .i64 0)]),[]⟩] [5,7,8,9,10,11,12,38,39,40] (z [s 7 10 38] [5,7,8,9,10,11,12,39,40] (z [s 7 11 39] [5,7,8,9,10,11,12,40] (z [s 7 12 40] [5,7,8,9,10,11,12] (.ops [] [5,7,8,9,10,11,12]))))))) (.both (z [⟨some 11,none,.alloc (.alloc [(.int .u32 0),(.int .u32 0),(.int .i64 0),.nils,(.int .i64 0),(.int .i64 0),(.int .i64 0)]),[]⟩] [5,7,8,9,10,11,38,40] (.both (z [⟨some 39,none,.load (.ld 7 true),[.t 7]⟩] [5,7,8,9,10,11,38,39,40] (z [⟨some 12,none,.alloc (.alloc [(.int .u32 0),(.int .u32 0),(.int .i64 0),.nils,(.int .i64 0),(.int .i64 0),(.int .i64 0)]),[]⟩] [5,7,8,9,10,11,12,38,39,40] (z [s 7 10 38] [5,7,8,9,10,11,12,39,40] (z [s 7 11 39] [5,7,8,9,10,11,12,40] (z [s 7 12 40] [5,7,8,9,10,11,12] (.ops [] [5,7,8,9,10,11,12])))))) (.both (z [⟨some 12,none,.alloc (.alloc [(.int .u32 0),(.int .u32 0),(.int .i64 0),.nils,(.int .i64 0),(.int .i64 0),(.int .i64 0)]),[]⟩] [5,7,8,9,10,11,12,38,40] (.both (z [⟨some 39,none,.load (.ld 7 true),[.t 7]⟩] [5,7,8,9,10,11,12,38,39,40] (z [s 7 10 38] [5,7,8,9,10,11,12,39,40] (z [s 7 11 39] [5,7,8,9,10,11,12,40] (z [s 7 12 40] [5,7,8,9,10,11,12] (.ops [] [5,7,8,9,10,11,12]))))) (.both (z [s 7 10 38] [5,7,8,9,10,11,12,40] (z [⟨some 39,none,.load (.ld 7 true),[.t 7]⟩] [5,7,8,9,10,11,12,39,40] (z [s 7 11 39] [5,7,8,9,10,11,12,40] (z [s 7 12 40] [5,7,8,9,10,11,12] (.ops [] [5,7,8,9,10,11,12]))))) (.top)))) (.top)))) (.both (z [⟨some 12,none,.alloc (.alloc [(.int .u32 0),(.int .u32 0),(.int .i64 0),.nils,(.int .i64 0),(.int .i64 0),(.int .i64 0)]),[]⟩] [5,7,8,9,10,12,38,40] (.both (z [⟨some 39,none,.load (.ld 7 true),[.t 7]⟩] [5,7,8,9,10,12,38,39,40] (z [⟨some 11,none,.alloc (.alloc [(.int .u32 0),(.int .u32 0),(.int .i64 0),.nils,(.int .i64 0),(.int .i64 0),(.int .i64 0)]),[]⟩] [5,7,8,9,10,11,12,38,39,40] (z [s 7 10 38] [5,7,8,9,10,11,12,39,40] (z [s 7 11 39] [5,7,8,9,10,11,12,40] (z [s 7 12 40] [5,7,8,9,10,11,12] (.ops [] [5,7,8,9,10,11,12])))))) (.both (z [⟨some 11,none,.alloc (.alloc [(.int .u32 0),(.int .u32 0),(.int .i64 0),.nils,(.int .i64 0),(.int .i64 0),(.int .i64 0)]),[]⟩] [5,7,8,9,10,11,12,38,40] (.both (z [⟨some 39,none,.load (.ld 7 true),[.t 7]⟩] [5,7,8,9,10,11,12,38,39,40] (z [s 7 10 38] [5,7,8,9,10,11,12,39,40] (z [s 7 11 39] [5,7,8,9,10,11,12,40] (z [s 7 12 40] [5,7,8,9,10,11,12] (.ops [] [5,7,8,9,10,11,12]))))) (.both (z [s 7 10 38] [5,7,8,9,10,11,12,40] (z [⟨some 39,none,.load (.ld 7 true),[.t 7]⟩] [5,7,8,9,10,11,12,39,40] (z [s 7 11 39] [5,7,8,9,10,11,12,40] (z [s 7 12 40] [5,7,8,9,10,11,12] (.ops [] [5,7,8,9,10,11,12]))))) (.top)))) (.top)))) (.top))))) (.both (z [⟨some 11,none,.alloc (.alloc [(.int .u32 0),(.int .u32 0),(.int .i64 0),.nils,(.int .i64 0),(.int .i64 0),(.int .i64 0)]),[]⟩] [5,7,8,9,11,38,40] (.both (z [⟨some 39,none,.load (.ld 7 true),[.t 7]⟩] [5,7,8,9,11,38,39,40] (z [⟨some 10,none,.alloc (.alloc [(.int .u32 0),(.int .u32 0),(.int .i64 0),.nils,(.int .i64 0),(.int .i64 0),(.int .i64 0)]),[]⟩] [5,7,8,9,10,11,38,39,40] (z [⟨some 12,none,.alloc (.alloc [(.int .u32 0),(.int .u32 0),(.int .i64 0),.nils,(.int .i64 0),(.int .i64 0),(.int .i64 0)]),[]⟩] [5,7,8,9,10,11,12,38,39,40] (z [s 7 10 38] [5,7,8,9,10,11,12,39,40] (z [s 7 11 39] [5,7,8,9,10,11,12,40] (z [s 7 12 40] [5,7,8,9,10,11,12] (.ops [] [5,7,8,9,10,11,12]))))))) (.both (z [⟨some 10,none,.alloc (.alloc [(.int .u32 0),(.int .u32 0),(.int .i64 0),.nils,(.int .i64 0),(.int .i64 0),(.int .i64 0)]),[]⟩] [5,7,8,9,10,11,38,40] (.both (z [⟨some 39,none,.load (.ld 7 true),[.t 7]⟩] [5,7,8,9,10,11,38,39,40] (z [⟨some 12,none,.alloc (.alloc [(.int .u32 0),(.int .u32 0),(.int .i64 0),.nils,(.int .i64 0),(.int .i64 0),(.int .i64 0)]),[]⟩] [5,7,8,9,10,11,12,38,39,40] (z [s 7 10 38] [5,7,8,9,10,11,12,39,40] (z [s 7 11 39] [5,7,8,9,10,11,12,40] (z [s 7 12 40] [5,7,8,9,10,11,12] (.ops [] [5,7,8,9,10,11,12])))))) (.both (z [⟨some 12,none,.alloc (.alloc [(.int .u32 0),(.int .u32 0),(.int .i64 0),.nils,(.int .i64 0),(.int .i64 0),(.int .i64 0)]),[]⟩] [5,7,8,9,10,11,12,38,40] (.both (z [⟨some 39,none,.load (.ld 7 true),[.t 7]⟩] [5,7,8,9,10,11,12,38,39,40] (z [s 7 10 38] [5,7,8,9,10,11,12,39,40] (z [s 7 11 39] [5,7,8,9,10,11,12,40] (z [s 7 12 40] [5,7,8,9,10,11,12] (.ops [] [5,7,8,9,10,11,12]))))) (.both (z [s 7 10 38] [5,7,8,9,10,11,12,40] (z [⟨some 39,none,.load (.ld 7 true),[.t 7]⟩] [5,7,8,9,10,11,12,39,40] (z [s 7 11 39] [5,7,8,9,10,11,12,40] (z [s 7 12 40] [5,7,8,9,10,11,12] (.ops [] [5,7,8,9,10,11,12]))))) (.top)))) (.top)))) (.both (z [⟨some 12,none,.alloc (.alloc [(.int .u32 0),(.int .u32 0),(.int .i64 0),.nils,(.int .i64 0),(.int .i64 0),(.int .i64 0)]),[]⟩] [5,7,8,9,11,12,38,40] (.both (z [⟨some 39,none,.load (.ld 7 true),[.t 7]⟩] [5,7,8,9,11,12,38,39,40] (z [⟨some 10,none,.alloc (.alloc [(.int .u32 0),(.int .u32 0),(.int .i64 0),.nils,(.int .i64 0),(.int .i64 0),(.int .i64 0)]),[]⟩] [5,7,8,9,10,11,12,38,39,40] (z [s 7 10 38] [5,7,8,9,10,11,12,39,40] (z [s 7 11 39] [5,7,8,9,10,11,12,40] (z [s 7 12 40] [5,7,8,9,10,11,12] (.ops [] [5,7,8,9,10,11,12])))))) (.both (z [⟨some 10,none,.alloc (.alloc [(.int .u32 0),(.int .u32 0),(.int .i64 0),.nils,(.int .i64 0),(.int .i64 0),(.int .i64 0)]),[]⟩] [5,7,8,9,10,11,12,38,40] (.both (z [⟨some 39,none,.load (.ld 7 true),[.t 7]⟩] [5,7,8,9,10,11,12,38,39,40] (z [s 7 10 38] [5,7,8,9,10,11,12,39,40] (z [s 7 11 39] [5,7,8,9,10,11,12,40] (z [s 7 12 40] [5,7,8,9,10,11,12] (.ops [] [5,7,8,9,10,11,12]))))) (.both (z [s 7 10 38] [5,7,8,9,10,11,12,40] (z [⟨some 39,none,.load (.ld 7 true),[.t 7]⟩] [5,7,8,9,10,11,12,39,40] (z [s 7 11 39] [5,7,8,9,10,11,12,40] (z [s 7 12 40] [5,7,8,9,10,11,12] (.ops [] [5,7,8,9,10,11,12]))))) (.top)))) (.top)))) (.top))))) (.both (z [⟨some 12,none,.alloc (.alloc [(.int .u32 0),(.int .u32 0),(.int .i64 0),.nils,(.int .i64 0),(.int .i64 0),(.int .i64 0)]),[]⟩] [5,7,8,9,12,38,40] (.both (z [⟨some 39,none,.load (.ld 7 true),[.t 7]⟩] [5,7,8,9,12,38,39,40] (z [⟨some 10,none,.alloc (.alloc [(.int .u32 0),(.int .u32 0),(.int .i64 0),.nils,(.int .i64 0),(.int .i64 0),(.int .i64 0)]),[]⟩] [5,7,8,9,10,12,38,39,40] (z [⟨some 11,none,.alloc (.alloc [(.int .u32 0),(.int .u32 0),(.int .i64 0),.nils,(.int .i64 0),(.int .i64 0),(.int .i64 0)]),[]⟩] [5,7,8,9,10,11,12,38,39,40] (z [s 7 10 38] [5,7,8,9,10,11,12,39,40] (z [s 7 11 39] [5,7,8,9,10,11,12,40] (z [s 7 12 40] [5,7,8,9,10,11,12] (.ops [] [5,7,8,9,10,11,12]))))))) (.both (z [⟨some 10,none,.alloc (.alloc [(.int .u32 0),(.int .u32 0),(.int .i64 0),.nils,(.int .i64 0),(.int .i64 0),(.int .i64 0)]),[]⟩] [5,7,8,9,10,12,38,40] (.both (z [⟨some 39,none,.load (.ld 7 true),[.t 7]⟩] [5,7,8,9,10,12,38,39,40] (z [⟨some 11,none,.alloc (.alloc [(.int .u32 0),(.int .u32 0),(.int .i64 0),.nils,(.int .i64 0),(.int .i64 0),(.int .i64 0)]),[]⟩] [5,7,8,9,10,11,12,38,39,40] (z [s 7 10 38] [5,7,8,9,10,11,12,39,40] (z [s 7 11 39] [5,7,8,9,10,11,12,40] (z [s 7 12 40] [5,7,8,9,10,11,12] (.ops [] [5,7,8,9,10,11,12])))))) (.both (z [⟨some 11,none,.alloc (.alloc [(.int .u32 0),(.int .u32 0),(.int .i64 0),.nils,(.int .i64 0),(.int .i64 0),(.int .i64 0)]),[]⟩] [5,7,8,9,10,11,12,38,40] (.both (z [⟨some 39,none,.load (.ld 7 true),[.t 7]⟩] [5,7,8,9,10,11,12,38,39,40] (z [s 7 10 38] [5,7,8,9,10,11,12,39,40] (z [s 7 11 39] [5,7,8,9,10,11,12,40] (z [s 7 12 40] [5,7,8,9,10,11,12] (.ops [] [5,7,8,9,10,11,12]))))) (.both (z [s 7 10 38] [5,7,8,9,10,11,12,40] (z [⟨some 39,none,.load (.ld 7 true),[.t 7]⟩] [5,7,8,9,10,11,12,39,40] (z [s 7 11 39] [5,7,8,9,10,11,12,40] (z [s 7 12 40] [5,7,8,9,10,11,12] (.ops [] [5,7,8,9,10,11,12]))))) (.top)))) (.top)))) (.both (z [⟨some 11,none,.alloc (.alloc [(.int .u32 0),(.int .u32 0),(.int .i64 0),.nils,(.int .i64 0),(.int .i64 0),(.int .i64 0)]),[]⟩] [5,7,8,9,11,12,38,40] (.both (z [⟨some 39,none,.load (.ld 7 true),[.t 7]⟩] [5,7,8,9,11,12,38,39,40] (z [⟨some 10,none,.alloc (.alloc [(.int .u32 0),(.int .u32 0),(.int .i64 0),.nils,(.int .i64 0),(.int .i64 0),(.int .i64 0)]),[]⟩] [5,7,8,9,10,11,12,38,39,40] (z [s 7 10 38] [5,7,8,9,10,11,12,39,40] (z [s 7 11 39] [5,7,8,9,10,11,12,40] (z [s 7 12 40] [5,7,8,9,10,11,12] (.ops [] [5,7,8,9,10,11,12])))))) (.both (z [⟨some 10,none,.alloc (.alloc [(.int .u32 0),(.int .u32 0),(.int .i64 0),.nils,(.int .i64 0),(.int .i64 0),(.int .i64 0)]),[]⟩] [5,7,8,9,10,11,12,38,40] (.both (z [⟨some 39,none,.load (.ld 7 true),[.t 7]⟩] [5,7,8,9,10,11,12,38,39,40] (z [s 7 10 38] [5,7,8,9,10,11,12,39,40] (z [s 7 11 39] [5,7,8,9,10,11,12,40] (z [s 7 12 40] [5,7,8,9,10,11,12] (.ops [] [5,7,8,9,10,11,12]))))) (.both (z [s 7 10 38] [5,7,8,9,10,11,12,40] (z [⟨some 39,none,.load (.ld 7 true),[.t 7]⟩] [5,7,8,9,10,11,12,39,40] (z [s 7 11 39] [5,7,8,9,10,11,12,40] (z [s 7 12 40] [5,7,8,9,10,11,12] (.ops [] [5,7,8,9,10,11,12]))))) (.top)))) (.top)))) (.top))))) (.top)))))) (.both (z [⟨some 10,none,.alloc (.alloc [(.int .u32 0),(.int .u32 0),(.int .i64 0),.nils,(.int .i64 0),(.int .i64 0),(.int .i64 0)]),[]⟩] [5,7,8,9,10,38] (.both (z [⟨some 39,none,.load (.ld 7 true),[.t 7]⟩] [5,7,8,9,10,38,39] (.both (z [⟨some 40,none,.load (.ld 7 true),[.t 7]⟩] [5,7,8,9,10,38,39,40] (z [⟨some 11,none,.alloc (.alloc [(.int .u32 0),(.int .u32 0),(.int .i64 0),.nils,(.int .i64 0),(.int .i64 0),(.int .i64 0)]),[]⟩] [5,7,8,9,10,11,38,39,40] (z [⟨some 12,none,.alloc (.alloc [(.int .u32 0),(.int .u32 0),(.int .i64 0),.nils,(.int .i64 0),(.int .i64 0),(.int .i64 0)]),[]⟩] [5,7,8,9,10,11,12,38,39,40] (z [s 7 10 38] [5,7,8,9,10,11,12,39,40] (z [s 7 11 39] [5,7,8,9,10,11,12,40] (z [s 7 12 40] [5,7,8,9,10,11,12] (.ops [] [5,7,8,9,10,11,12]))))))) (.both (z [⟨some 11,none,.alloc (.alloc [(.int .u32 0),(.int .u32 0),(.int .i64 0),.nils,(.int .i64 0),(.int .i64 0),(.int .i64 0)]),[]⟩] [5,7,8,9,10,11,38,39] (.both (z [⟨some 40,none,.load (.ld 7 true),[.t 7]⟩] [5,7,8,9,10,11,38,39,40] (z [⟨some 12,none,.alloc (.alloc [(.int .u32 0),(.int .u32 0),(.int .i64 0),.nils,(.int .i64 0),(.int .i64 0),(.int .i64 0)]),[]⟩] [5,7,8,9,10,11,12,38,39,40] (z [s 7 10 38] [5,7,8,9,10,11,12,39,40] (z [s 7 11 39] [5,7,8,9,10,11,12,40] (z [s 7 12 40] [5,7,8,9,10,11,12] (.ops [] [5,7,8,9,10,11,12])))))) (.both (z [⟨some 12,none,.alloc (.alloc [(.int .u32 0),(.int .u32 0),(.int .i64 0),.nils,(.int .i64 0),(.int .i64 0),(.int .i64 0)]),[]⟩] [5,7,8,9,10,11,12,38,39] (.both (z [⟨some 40,none,.load (.ld 7 true),[.t 7]⟩] [5,7,8,9,10,11,12,38,39,40] (z [s 7 10 38] [5,7,8,9,10,11,12,39,40] (z [s 7 11 39] [5,7,8,9,10,11,12,40] (z [s 7 12 40] [5,7,8,9,10,11,12] (.ops [] [5,7,8,9,10,11,12]))))) (.both (z [s 7 10 38] [5,7,8,9,10,11,12,39] (.both (z [⟨some 40,none,.load (.ld 7 true),[.t 7]⟩] [5,7,8,9,10,11,12,39,40] (z [s 7 11 39] [5,7,8,9,10,11,12,40] (z [s 7 12 40] [5,7,8,9,10,11,12] (.ops [] [5,7,8,9,10,11,12])))) (.both (z [s 7 11 39] [5,7,8,9,10,11,12] (z [⟨some 40,none,.load (.ld 7 true),[.t 7]⟩] [5,7,8,9,10,11,12,40] (z [s 7 12 40] [5,7,8,9,10,11,12] (.ops [] [5,7,8,9,10,11,12])))) (.top)))) (.top)))) (.top)))) (.both (z [⟨some 12,none,.alloc (.alloc [(.int .u32 0),(.int .u32 0),(.int .i64 0),.nils,(.int .i64 0),(.int .i64 0),(.int .i64 0)]),[]⟩] [5,7,8,9,10,12,38,39] (.both (z [⟨some 40,none,.load (.ld 7 true),[.t 7]⟩] [5,7,8,9,10,12,38,39,40] (z [⟨some 11,none,.alloc (.alloc [(.int .u32 0),(.int .u32 0),(.int .i64 0),.nils,(.int .i64 0),(.int .i64 0),(.int .i64 0)]),[]⟩] [5,7,8,9,10,11,12,38,39,40] (z [s 7 10 38] [5,7,8,9,10,11,12,39,40] (z [s 7 11 39] [5,7,8,9,10,11,12,40] (z [s 7 12 40] [5,7,8,9,10,11,12] (.ops [] [5,7,8,9,10,11,12])))))) (.both (z [⟨some 11,none,.alloc (.alloc [(.int .u32 0),(.int .u32 0),(.int .i64 0),.nils,(.int .i64 0),(.int .i64 0),(.int .i64 0)]),[]⟩] [5,7,8,9,10,11,12,38,39] (.both (z [⟨some 40,none,.load (.ld 7 true),[.t 7]⟩] [5,7,8,9,10,11,12,38,39,40] (z [s 7 10 38] [5,7,8,9,10,11,12,39,40] (z [s 7 11 39] [5,7,8,9,10,11,12,40] (z [s 7 12 40] [5,7,8,9,10,11,12] (.ops [] [5,7,8,9,10,11,12]))))) (.both (z [s 7 10 38] [5,7,8,9,10,11,12,39] (.both (z [⟨some 40,none,.load (.ld 7 true),[.t 7]⟩] [5,7,8,9,10,11,12,39,40] (z [s 7 11 39] [5,7,8,9,10,11,12,40] (z [s 7 12 40] [5,7,8,9,10,11,12] (.ops [] [5,7,8,9,10,11,12])))) (.both (z [s 7 11 39] [5,7,8,9,10,11,12] (z [⟨some 40,none,.load (.ld 7 true),[.t 7]⟩] [5,7,8,9,10,11,12,40] (z [s 7 12 40] [5,7,8,9,10,11,12] (.ops [] [5,7,8,9,10,11,12])))) (.top)))) (.top)))) (.top)))) (.top))))) (.both (z [⟨some 40,none,.load (.ld 7 true),[.t 7]⟩] [5,7,8,9,10,38,40] (.both (z [⟨some 39,none,.load (.ld 7 true),[.t 7]⟩] [5,7,8,9,10,38,39,40] (z [⟨some 11,none,.alloc (.alloc [(.int .u32 0),(.int .u32 0),(.int .i64 0),.nils,(.int .i64 0),(.int .i64 0),(.int .i64 0)]),[]⟩] [5,7,8,9,10,11,38,39,40] (z [⟨some 12,none,.alloc (.alloc [(.int .u32 0),(.int .u32 0),(.int .i64 0),.nils,(.int .i64 0),(.int .i64 0),(.int .i64 0)]),[]⟩] [5,7,8,9,10,11,12,38,39,40] (z [s 7 10 38] [5,7,8,9,10,11,12,39,40] (z [s 7 11 39] [5,7,8,9,10,11,12,40] (z [s 7 12 40] [5,7,8,9,10,11,12] (.ops [] [5,7,8,9,10,11,12]))))))) (.both (z [⟨some 11,none,.alloc (.alloc [(.int .u32 0),(.int .u32 0),(.int .i64 0),.nils,(.int .i64 0),(.int .i64 0),(.int .i64 0)]),[]⟩] [5,7,8,9,10,11,38,40] (.both (z [⟨some 39,none,.load (.ld 7 true),[.t 7]⟩] [5,7,8,9,10,11,38,39,40] (z [⟨some 12,none,.alloc (.alloc [(.int .u32 0),(.int .u32 0),(.int .i64 0),.nils,(.int .i64 0),(.int .i64 0),(.int .i64 0)]),[]⟩] [5,7,8,9,10,11,12,38,39,40] (z [s 7 10 38] [5,7,8,9,10,11,12,39,40] (z [s 7 11 39] [5,7,8,9,10,11,12,40] (z [s 7 12 40] [5,7,8,9,10,11,12] (.ops [] [5,7,8,9,10,11,12])))))) (.both (z [⟨some 12,none,.alloc (.alloc [(.int .u32 0),(.int .u32 0),(.int .i64 0),.nils,(.int .i64 0),(.int .i64 0),(.int .i64 0)]),[]⟩] [5,7,8,9,10,11,12,38,40] (.both (z [⟨some 39,none,.load (.ld 7 true),[.t 7]⟩] [5,7,8,9,10,11,12,38,39,40] (z [s 7 10 38] [5,7,8,9,10,11,12,39,40] (z [s 7 11 39] [5,7,8,9,10,11,12,40] (z [s 7 12 40] [5,7,8,9,10,11,12] (.ops [] [5,7,8,9,10,11,12]))))) (.both (z [s 7 10 38] [5,7,8,9,10,11,12,40] (z [⟨some 39,none,.load (.ld 7 true),[.t 7]⟩] [5,7,8,9,10,11,12,39,40] (z [s 7 11 39] [5,7,8,9,10,11,12,40] (z [s 7 12 40] [5,7,8,9,10,11,12] (.ops [] [5,7,8,9,10,11,12]))))) (.top)))) (.top)))) (.both (z [⟨some 12,none,.alloc (.alloc [(.int .u32 0),(.int .u32 0),(.int .i64 0),.nils,(.int .i64 0),(.int .i64 0),(.int .i64 0)]),[]⟩] [5,7,8,9,10,12,38,40] (.both (z [⟨some 39,none,.load (.ld 7 true),[.t 7]⟩] [5,7,8,9,10,12,38,39,40] (z [⟨some 11,none,.alloc (.alloc [(.int .u32 0),(.int .u32 0),(.int .i64 0),.nils,(.int .i64 0),(.int .i64 0),(.int .i64 0)]),[]⟩] [5,7,8,9,10,11,12,38,39,40] (z [s 7 10 38] [5,7,8,9,10,11,12,39,40] (z [s 7 11 39] [5,7,8,9,10,11,12,40] (z [s 7 12 40] [5,7,8,9,10,11,12] (.ops [] [5,7,8,9,10,11,12])))))) (.both (z [⟨some 11,none,.alloc (.alloc [(.int .u32 0),(.int .u32 0),(.int .i64 0),.nils,(.int .i64 0),(.int .i64 0),(.int .i64 0)]),[]⟩] [5,7,8,9,10,11,12,38,40] (.both (z [⟨some 39,none,.load (.ld 7 true),[.t 7]⟩] [5,7,8,9,10,11,12,38,39,40] (z [s 7 10 38] [5,7,8,9,10,11,12,39,40] (z [s 7 11 39] [5,7,8,9,10,11,12,40] (z [s 7 12 40] [5,7,8,9,10,11,12] (.ops [] [5,7,8,9,10,11,12]))))) (.both (z [s 7 10 38] [5,7,8,9,10,11,12,40] (z [⟨some 39,none,.load (.ld 7 true),[.t 7]⟩] [5,7,8,9,10,11,12,39,40] (z [s 7 11 39] [5,7,8,9,10,11,12,40] (z [s 7 12 40] [5,7,8,9,10,11,12] (.ops [] [5,7,8,9,10,11,12]))))) (.top)))) (.top)))) (.top))))) (.both (z [⟨some 11,none,.alloc (.alloc [(.int .u32 0),(.int .u32 0),(.int .i64 0),.nils,(.int .i64 0),(.int .i64 0),(.int .i64 0)]),[]⟩] [5,7,8,9,10,11,38] (.both (z [⟨some 39,none,.load (.ld 7 true),[.t 7]⟩] [5,7,8,9,10,11,38,39] (.both (z [⟨some 40,none,.load (.ld 7 true),[.t 7]⟩] [5,7,8,9,10,11,38,39,40] (z [⟨some 12,none,.alloc (.alloc [(.int .u32 0),(.int .u32 0),(.int .i64 0),.nils,(.int .i64 0),(.int .i64 0),(.int .i64 0)]),[]⟩] [5,7,8,9,10,11,12,38,39,40] (z [s 7 10 38] [5,7,8,9,10,11,12,39,40] (z [s 7 11 39] [5,7,8,9,10,11,12,40] (z [s 7 12 40] [5,7,8,9,10,11,12] (.ops [] [5,7,8,9,10,11,12])))))) (.both (z [⟨some 12,none,.alloc (.alloc [(.int .u32 0),(.int .u32 0),(.int .i64 0),.nils,(.int .i64 0),(.int .i64 0),(.int .i64 0)]),[]⟩] [5,7,8,9,10,11,12,38,39] (.both (z [⟨some 40,none,.load (.ld 7 true),[.t 7]⟩] [5,7,8,9,10,11,12,38,39,40] (z [s 7 10 38] [5,7,8,9,10,11,12,39,40] (z [s 7 11 39] [5,7,8,9,10,11,12,40] (z [s 7 12 40] [5,7,8,9,10,11,12] (.ops [] [5,7,8,9,10,11,12]))))) (.both (z [s 7 10 38] [5,7,8,9,10,11,12,39] (.both (z [⟨some 40,none,.load (.ld 7 true),[.t 7]⟩] [5,7,8,9,10,11,12,39,40] (z [s 7 11 39] [5,7,8,9,10,11,12,40] (z [s 7 12 40] [5,7,8,9,10,11,12] (.ops [] [5,7,8,9,10,11,12])))) (.both (z [s 7 11 39] [5,7,8,9,10,11,12] (z [⟨some 40,none,.load (.ld 7 true),[.t 7]⟩] [5,7,8,9,10,11,12,40] (z [s 7 12 40] [5,7,8,9,10,11,12] (.ops [] [5,7,8,9,10,11,12])))) (.top)))) (.top)))) (.top)))) (.both (z [⟨some 40,none,.load (.ld 7 true),[.t 7]⟩] [5,7,8,9,10,11,38,40] (.both (z [⟨some 39,none,.load (.ld 7 true),[.t 7]⟩] [5,7,8,9,10,11,38,39,40] (z [⟨some 12,none,.alloc (.alloc [(.int .u32 0),(.int .u32 0),(.int .i64 0),.nils,(.int .i64 0),(.int .i64 0),(.int .i64 0)]),[]⟩] [5,7,8,9,10,11,12,38,39,40] (z [s 7 10 38] [5,7,8,9,10,11,12,39,40] (z [s 7 11 39] [5,7,8,9,10,11,12,40] (z [s 7 12 40] [5,7,8,9,10,11,12] (.ops [] [5,7,8,9,10,11,12])))))) (.both (z [⟨some 12,none,.alloc (.alloc [(.int .u32 0),(.int .u32 0),(.int .i64 0),.nils,(.int .i64 0),(.int .i64 0),(.int .i64 0)]),[]⟩] [5,7,8,9,10,11,12,38,40] (.both (z [⟨some 39,none,.load (.ld 7 true),[.t 7]⟩] [5,7,8,9,10,11,12,38,39,40] (z [s 7 10 38] [5,7,8,9,10,11,12,39,40] (z [s 7 11 39] [5,7,8,9,10,11,12,40] (z [s 7 12 40] [5,7,8,9,10,11,12] (.ops [] [5,7,8,9,10,11,12]))))) (.both (z [s 7 10 38] [5,7,8,9,10,11,12,40] (z [⟨some 39,none,.load (.ld 7 true),[.t 7]⟩] [5,7,8,9,10,11,12,39,40] (z [s 7 11 39] [5,7,8,9,10,11,12,40] (z [s 7 12 40] [5,7,8,9,10,11,12] (.ops [] [5,7,8,9,10,11,12]))))) (.top)))) (.top)))) (.both (z [⟨some 12,none,.alloc (.alloc [(.int .u32 0),(.int .u32 0),(.int .i64 0),.nils,(.int .i64 0),(.int .i64 0),(.int .i64 0)]),[]⟩] [5,7,8,9,10,11,12,38] (.both (z [⟨some 39,none,.load (.ld 7 true),[.t 7]⟩] [5,7,8,9,10,11,12,38,39] (.both (z [⟨some 40,none,.load (.ld 7 true),[.t 7]⟩] [5,7,8,9,10,11,12,38,39,40] (z [s 7 10 38] [5,7,8,9,10,11,12,39,40] (z [s 7 11 39] [5,7,8,9,10,11,12,40] (z [s 7 12 40] [5,7,8,9,10,11,12] (.ops [] [5,7,8,9,10,11,12]))))) (.both (z [s 7 10 38] [5,7,8,9,10,11,12,39] (.both (z [⟨some 40,none,.load (.ld 7 true),[.t 7]⟩] [5,7,8,9,10,11,12,39,40] (z [s 7 11 39] [5,7,8,9,10,11,12,40] (z [s 7 12 40] [5,7,8,9,10,11,12] (.ops [] [5,7,8,9,10,11,12])))) (.both (z [s 7 11 39] [5,7,8,9,10,11,12] (z [⟨some 40,none,.load (.ld 7 true),[.t 7]⟩] [5,7,8,9,10,11,12,40] (z [s 7 12 40] [5,7,8,9,10,11,12] (.ops [] [5,7,8,9,10,11,12])))) (.top)))) (.top)))) (.both (z [⟨some 40,none,.load (.ld 7 true),[.t 7]⟩] [5,7,8,9,10,11,12,38,40] (.both (z [⟨some 39,none,.load (.ld 7 true),[.t 7]⟩] [5,7,8,9,10,11,12,38,39,40] (z [s 7 10 38] [5,7,8,9,10,11,12,39,40] (z [s 7 11 39] [5,7,8,9,10,11,12,40] (z [s 7 12 40] [5,7,8,9,10,11,12] (.ops [] [5,7,8,9,10,11,12]))))) (.both (z [s 7 10 38] [5,7,8,9,10,11,12,40] (z [⟨some 39,none,.load (.ld 7 true),[.t 7]⟩] [5,7,8,9,10,11,12,39,40] (z [s 7 11 39] [5,7,8,9,10,11,12,40] (z [s 7 12 40] [5,7,8,9,10,11,12] (.ops [] [5,7,8,9,10,11,12]))))) (.top)))) (.both (z [s 7 10 38] [5,7,8,9,10,11,12] (z [⟨some 39,none,.load (.ld 7 true),[.t 7]⟩] [5,7,8,9,10,11,12,39] (.both (z [⟨some 40,none,.load (.ld 7 true),[.t 7]⟩] [5,7,8,9,10,11,12,39,40] (z [s 7 11 39] [5,7,8,9,10,11,12,40] (z [s 7 12 40] [5,7,8,9,10,11,12] (.ops [] [5,7,8,9,10,11,12])))) (.both (z [s 7 11 39] [5,7,8,9,10,11,12] (z [⟨some 40,none,.load (.ld 7 true),[.t 7]⟩] [5,7,8,9,10,11,12,40] (z [s 7 12 40] [5,7,8,9,10,11,12] (.ops [] [5,7,8,9,10,11,12])))) (.top))))) (.top))))) (.top))))) (.both (z [⟨some 12,none,.alloc (.alloc [(.int .u32 0),(.int .u32 0),(.int .i64 0),.nils,(.int .i64 0),(.int .i64 0),(.int .i64 0)]),[]⟩] [5,7,8,9,10,12,38] (.both (z [⟨some 39,none,.load (.ld 7 true),[.t 7]⟩] [5,7,8,9,10,12,38,39] (.both (z [⟨some 40,none,.load (.ld 7 true),[.t 7]⟩] [5,7,8,9,10,12,38,39,40] (z [⟨some 11,none,.alloc (.alloc [(.int .u32 0),(.int .u32 0),(.int .i64 0),.nils,(.int .i64 0),(.int .i64 0),(.int .i64 0)]),[]⟩] [5,7,8,9,10,11,12,38,39,40] (z [s 7 10 38] [5,7,8,9,10,11,12,39,40] (z [s 7 11 39] [5,7,8,9,10,11,12,40] (z [s 7 12 40] [5,7,8,9,10,11,12] (.ops [] [5,7,8,9,10,11,12])))))) (.both (z [⟨some 11,none,.alloc (.alloc [(.int .u32 0),(.int .u32 0),(.int .i64 0),.nils,(.int .i64 0),(.int .i64 0),(.int .i64 0)]),[]⟩] [5,7,8,9,10,11,12,38,39] (.both (z [⟨some 40,none,.load (.ld 7 true),[.t 7]⟩] [5,7,8,9,10,11,12,38,39,40] (z [s 7 10 38] [5,7,8,9,10,11,12,39,40] (z [s 7 11 39] [5,7,8,9,10,11,12,40] (z [s 7 12 40] [5,7,8,9,10,11,12] (.ops [] [5,7,8,9,10,11,12]))))) (.both (z [s 7 10 38] [5,7,8,9,10,11,12,39] (.both (z [⟨some 40,none,.load (.ld 7 true),[.t 7]⟩] [5,7,8,9,10,11,12,39,40] (z [s 7 11 39] [5,7,8,9,10,11,12,40] (z [s 7 12 40] [5,7,8,9,10,11,12] (.ops [] [5,7,8,9,10,11,12])))) (.both (z [s 7 11 39] [5,7,8,9,10,11,12] (z [⟨some 40,none,.load (.ld 7 true),[.t 7]⟩] [5,7,8,9,10,11,12,40] (z [s 7 12 40] [5,7,8,9,10,11,12] (.ops [] [5,7,8,9,10,11,12])))) (.top)))) (.top)))) (.top)))) (.both (z [⟨some 40,none,.load (.ld 7 true),[.t 7]⟩] [5,7,8,9,10,12,38,40] (.both (z [⟨some 39,none,.load (.ld 7 true),[.t 7]⟩] [5,7,8,9,10,12,38,39,40] (z [⟨some 11,none,.alloc (.alloc [(.int .u32 0),(.int .u32 0),(.int .i64 0),.nils,(.int .i64 0),(.int .i64 0),(.int .i64 0)]),[]⟩] [5,7,8,9,10,11,12,38,39,40] (z [s 7 10 38] [5,7,8,9,10,11,12,39,40] (z [s 7 11 39] [5,7,8,9,10,11,12,40] (z [s 7 12 40] [5,7,8,9,10,11,12] (.ops [] [5,7,8,9,10,11,12])))))) (.both (z [⟨some 11,none,.alloc (.alloc [(.int .u32 0),(.int .u32 0),(.int .i64 0),.nils,(.int .i64 0),(.int .i64 0),(.int .i64 0)]),[]⟩] [5,7,8,9,10,11,12,38,40] (.both (z [⟨some 39,none,.load (.ld 7 true),[.t 7]⟩] [5,7,8,9,10,11,12,38,39,40] (z [s 7 10 38] [5,7,8,9,10,11,12,39,40] (z [s 7 11 39] [5,7,8,9,10,11,12,40] (z [s 7 12 40] [5,7,8,9,10,11,12] (.ops [] [5,7,8,9,10,11,12]))))) (.both (z [s 7 10 38] [5,7,8,9,10,11,12,40] (z [⟨some 39,none,.load (.ld 7 true),[.t 7]⟩] [5,7,8,9,10,11,12,39,40] (z [s 7 11 39] [5,7,8,9,10,11,12,40] (z [s 7 12 40] [5,7,8,9,10,11,12] (.ops [] [5,7,8,9,10,11,12]))))) (.top)))) (.top)))) (.both (z [⟨some 11,none,.alloc (.alloc [(.int .u32 0),(.int .u32 0),(.int .i64 0),.nils,(.int .i64 0),(.int .i64 0),(.int .i64 0)]),[]⟩] [5,7,8,9,10,11,12,38] (.both (z [⟨some 39,none,.load (.ld 7 true),[.t 7]⟩] [5,7,8,9,10,11,12,38,39] (.both (z [⟨some 40,none,.load (.ld 7 true),[.t 7]⟩] [5,7,8,9,10,11,12,38,39,40] (z [s 7 10 38] [5,7,8,9,10,11,12,39,40] (z [s 7 11 39] [5,7,8,9,10,11,12,40] (z [s 7 12 40] [5,7,8,9,10,11,12] (.ops [] [5,7,8,9,10,11,12]))))) (.both (z [s 7 10 38] [5,7,8,9,10,11,12,39] (.both (z [⟨some 40,none,.load (.ld 7 true),[.t 7]⟩] [5,7,8,9,10,11,12,39,40] (z [s 7 11 39] [5,7,8,9,10,11,12,40] (z [s 7 12 40] [5,7,8,9,10,11,12] (.ops [] [5,7,8,9,10,11,12])))) (.both (z [s 7 11 39] [5,7,8,9,10,11,12] (z [⟨some 40,none,.load (.ld 7 true),[.t 7]⟩] [5,7,8,9,10,11,12,40] (z [s 7 12 40] [5,7,8,9,10,11,12] (.ops [] [5,7,8,9,10,11,12])))) (.top)))) (.top)))) (.both (z [⟨some 40,none,.load (.ld 7 true),[.t 7]⟩] [5,7,8,9,10,11,12,38,40] (.both (z [⟨some 39,none,.load (.ld 7 true),[.t 7]⟩] [5,7,8,9,10,11,12,38,39,40] (z [s 7 10 38] [5,7,8,9,10,11,12,39,40] (z [s 7 11 39] [5,7,8,9,10,11,12,40] (z [s 7 12 40] [5,7,8,9,10,11,12] (.ops [] [5,7,8,9,10,11,12]))))) (.both (z [s 7 10 38] [5,7,8,9,10,11,12,40] (z [⟨some 39,none,.load (.ld 7 true),[.t 7]⟩] [5,7,8,9,10,11,12,39,40] (z [s 7 11 39] [5,7,8,9,10,11,12,40] (z [s 7 12 40] [5,7,8,9,10,11,12] (.ops [] [5,7,8,9,10,11,12]))))) (.top)))) (.both (z [s 7 10 38] [5,7,8,9,10,11,12] (z [⟨some 39,none,.load (.ld 7 true),[.t 7]⟩] [5,7,8,9,10,11,12,39] (.both (z [⟨some 40,none,.load (.ld 7 true),[.t 7]⟩] [5,7,8,9,10,11,12,39,40] (z [s 7 11 39] [5,7,8,9,10,11,12,40] (z [s 7 12 40] [5,7,8,9,10,11,12] (.ops [] [5,7,8,9,10,11,12])))) (.both (z [s 7 11 39] [5,7,8,9,10,11,12] (z [⟨some 40,none,.load (.ld 7 true),[.t 7]⟩] [5,7,8,9,10,11,12,40] (z [s 7 12 40] [5,7,8,9,10,11,12] (.ops [] [5,7,8,9,10,11,12])))) (.top))))) (.top))))) (.top))))) (.top)))))) (.both (z [⟨some 11,none,.alloc (.alloc [(.int .u32 0),(.int .u32 0),(.int .i64 0),.nils,(.int .i64 0),(.int .i64 0),(.int .i64 0)]),[]⟩] [5,7,8,9,11,38] (.both (z [⟨some 39,none,.load (.ld 7 true),[.t 7]⟩] [5,7,8,9,11,38,39] (.both (z [⟨some 40,none,.load (.ld 7 true),[.t 7]⟩] [5,7,8,9,11,38,39,40] (z [⟨some 10,none,.alloc (.alloc [(.int .u32 0),(.int .u32 0),(.int .i64 0),.nils,(.int .i64 0),(.int .i64 0),(.int .i64 0)]),[]⟩] [5,7,8,9,10,11,38,39,40] (z [⟨some 12,none,.alloc (.alloc [(.int .u32 0),(.int .u32 0),(.int .i64 0),.nils,(.int .i64 0),(.int .i64 0),(.int .i64 0)]),[]⟩] [5,7,8,9,10,11,12,38,39,40] (z [s 7 10 38] [5,7,8,9,10,11,12,39,40] (z [s 7 11 39] [5,7,8,9,10,11,12,40] (z [s 7 12 40] [5,7,8,9,10,11,12] (.ops [] [5,7,8,9,10,11,12]))))))) (.both (z [⟨some 10,none,.alloc (.alloc [(.int .u32 0),(.int .u32 0),(.int .i64 0),.nils,(.int .i64 0),(.int .i64 0),(.int .i64 0)]),[]⟩] [5,7,8,9,10,11,38,39] (.both (z [⟨some 40,none,.load (.ld 7 true),[.t 7]⟩] [5,7,8,9,10,11,38,39,40] (z [⟨some 12,none,.alloc (.alloc [(.int .u32 0),(.int .u32 0),(.int .i64 0),.nils,(.int .i64 0),(.int .i64 0),(.int .i64 0)]),[]⟩] [5,7,8,9,10,11,12,38,39,40] (z [s 7 10 38] [5,7,8,9,10,11,12,39,40] (z [s 7 11 39] [5,7,8,9,10,11,12,40] (z [s 7 12 40] [5,7,8,9,10,11,12] (.ops [] [5,7,8,9,10,11,12])))))) (.both (z [⟨some 12,none,.alloc (.alloc [(.int .u32 0),(.int .u32 0),(.int .i64 0),.nils,(.int .i64 0),(.int .i64 0),(.int .i64 0)]),[]⟩] [5,7,8,9,10,11,12,38,39] (.both (z [⟨some 40,none,.load (.ld 7 true),[.t 7]⟩] [5,7,8,9,10,11,12,38,39,40] (z [s 7 10 38] [5,7,8,9,10,11,12,39,40] (z [s 7 11 39] [5,7,8,9,10,11,12,40] (z [s 7 12 40] [5,7,8,9,10,11,12] (.ops [] [5,7,8,9,10,11,12]))))) (.both (z [s 7 10 38] [5,7,8,9,10,11,12,39] (.both (z [⟨some 40,none,.load (.ld 7 true),[.t 7]⟩] [5,7,8,9,10,11,12,39,40] (z [s 7 11 39] [5,7,8,9,10,11,12,40] (z [s 7 12 40] [5,7,8,9,10,11,12] (.ops [] [5,7,8,9,10,11,12])))) (.both (z [s 7 11 39] [5,7,8,9,10,11,12] (z [⟨some 40,none,.load (.ld 7 true),[.t 7]⟩] [5,7,8,9,10,11,12,40] (z [s 7 12 40] [5,7,8,9,10,11,12] (.ops [] [5,7,8,9,10,11,12])))) (.top)))) (.top)))) (.top)))) (.both (z [⟨some 12,none,.alloc (.alloc [(.int .u32 0),(.int .u32 0),(.int .i64 0),.nils,(.int .i64 0),(.int .i64 0),(.int .i64 0)]),[]⟩] [5,7,8,9,11,12,38,39] (.both (z [⟨some 40,none,.load (.ld 7 true),[.t 7]⟩] [5,7,8,9,11,12,38,39,40] (z [⟨some 10,none,.alloc (.alloc [(.int .u32 0),(.int .u32 0),(.int .i64 0),.nils,(.int .i64 0),(.int .i64 0),(.int .i64 0)]),[]⟩] [5,7,8,9,10,11,12,38,39,40] (z [s 7 10 38] [5,7,8,9,10,11,12,39,40] (z [s 7 11 39] [5,7,8,9,10,11,12,40] (z [s 7 12 40] [5,7,8,9,10,11,12] (.ops [] [5,7,8,9,10,11,12])))))) (.both (z [⟨some 10,none,.alloc (.alloc [(.int .u32 0),(.int .u32 0),(.int .i64 0),.nils,(.int .i64 0),(.int .i64 0),(.int .i64 0)]),[]⟩] [5,7,8,9,10,11,12,38,39] (.both (z [⟨some 40,none,.load (.ld 7 true),[.t 7]⟩] [5,7,8,9,10,11,12,38,39,40] (z [s 7 10 38] [5,7,8,9,10,11,12,39,40] (z [s 7 11 39] [5,7,8,9,10,11,12,40] (z [s 7 12 40] [5,7,8,9,10,11,12] (.ops [] [5,7,8,9,10,11,12]))))) (.both (z [s 7 10 38] [5,7,8,9,10,11,12,39] (.both (z [⟨some 40,none,.load (.ld 7 true),[.t 7]⟩] [5,7,8,9,10,11,12,39,40] (z [s 7 11 39] [5,7,8,9,10,11,12,40] (z [s 7 12 40] [5,7,8,9,10,11,12] (.ops [] [5,7,8,9,10,11,12])))) (.both (z [s 7 11 39] [5,7,8,9,10,11,12] (z [⟨some 40,none,.load (.ld 7 true),[.t 7]⟩] [5,7,8,9,10,11,12,40] (z [s 7 12 40] [5,7,8,9,10,11,12] (.ops [] [5,7,8,9,10,11,12])))) (.top)))) (.top)))) (.top)))) (.top))))) (.both (z [⟨some 40,none,.load (.ld 7 true),[.t 7]⟩] [5,7,8,9,11,38,40] (.both (z [⟨some 39,none,.load (.ld 7 true),[.t 7]⟩] [5,7,8,9,11,38,39,40] (z [⟨some 10,none,.alloc (.alloc [(.int .u32 0),(.int .u32 0),(.int .i64 0),.nils,(.int .i64 0),(.int .i64 0),(.int .i64 0)]),[]⟩] [5,7,8,9,10,11,38,39,40] (z [⟨some 12,none,.alloc (.alloc [(.int .u32 0),(.int .u32 0),(.int .i64 0),.nils,(.int .i64 0),(.int .i64 0),(.int .i64 0)]),[]⟩] [5,7,8,9,10,11,12,38,39,40] (z [s 7 10 38] [5,7,8,9,10,11,12,39,40] (z [s 7 11 39] [5,7,8,9,10,11,12,40] (z [s 7 12 40] [5,7,8,9,10,11,12] (.ops [] [5,7,8,9,10,11,12]))))))) (.both (z [⟨some 10,none,.alloc (.alloc [(.int .u32 0),(.int .u32 0),(.int .i64 0),.nils,(.int .i64 0),(.int .i64 0),(.int .i64 0)]),[]⟩] [5,7,8,9,10,11,38,40] (.both (z [⟨some 39,none,.load (.ld 7 true),[.t 7]⟩] [5,7,8,9,10,11,38,39,40] (z [⟨some 12,none,.alloc (.alloc [(.int .u32 0),(.int .u32 0),(.int .i64 0),.nils,(.int .i64 0),(.int .i64 0),(.int .i64 0)]),[]⟩] [5,7,8,9,10,11,12,38,39,40] (z [s 7 10 38] [5,7,8,9,10,11,12,39,40] (z [s 7 11 39] [5,7,8,9,10,11,12,40] (z [s 7 12 40] [5,7,8,9,10,11,12] (.ops [] [5,7,8,9,10,11,12])))))) (.both (z [⟨some 12,none,.alloc (.alloc [(.int .u32 0),(.int .u32 0),(.int .i64 0),.nils,(.int .i64 0),(.int .i64 0),(.int .i64 0)]),[]⟩] [5,7,8,9,10,11,12,38,40] (.both (z [⟨some 39,none,.load (.ld 7 true),[.t 7]⟩] [5,7,8,9,10,11,12,38,39,40] (z [s 7 10 38] [5,7,8,9,10,11,12,39,40] (z [s 7 11 39] [5,7,8,9,10,11,12,40] (z [s 7 12 40] [5,7,8,9,10,11,12] (.ops [] [5,7,8,9,10,11,12]))))) (.both (z [s 7 10 38] [5,7,8,9,10,11,12,40] (z [⟨some 39,none,.load (.ld 7 true),[.t 7]⟩] [5,7,8,9,10,11,12,39,40] (z [s 7 11 39] [5,7,8,9,10,11,12,40] (z [s 7 12 40] [5,7,8,9,10,11,12] (.ops [] [5,7,8,9,10,11,12]))))) (.top)))) (.top)))) (.both (z [⟨some 12,none,.alloc (.alloc [(.int .u32 0),(.int .u32 0),(.int .i64 0),.nils,(.int .i64 0),(.int .i64 0),(.int .i64 0)]),[]⟩] [5,7,8,9,11,12,38,40] (.both (z [⟨some 39,none,.load (.ld 7 true),[.t 7]⟩] [5,7,8,9,11,12,38,39,40] (z [⟨some 10,none,.alloc (.alloc [(.int .u32 0),(.int .u32 0),(.int .i64 0),.nils,(.int .i64 0),(.int .i64 0),(.int .i64 0)]),[]⟩] [5,7,8,9,10,11,12,38,39,40] (z [s 7 10 38] [5,7,8,9,10,11,12,39,40] (z [s 7 11 39] [5,7,8,9,10,11,12,40] (z [s 7 12 40] [5,7,8,9,10,11,12] (.ops [] [5,7,8,9,10,11,12])))))) (.both (z [⟨some 10,none,.alloc (.alloc [(.int .u32 0),(.int .u32 0),(.int .i64 0),.nils,(.int .i64 0),(.int .i64 0),(.int .i64 0)]),[]⟩] [5,7,8,9,10,11,12,38,40] (.both (z [⟨some 39,none,.load (.ld 7 true),[.t 7]⟩] [5,7,8,9,10,11,12,38,39,40] (z [s 7 10 38] [5,7,8,9,10,11,12,39,40] (z [s 7 11 39] [5,7,8,9,10,11,12,40] (z [s 7 12 40] [5,7,8,9,10,11,12] (.ops [] [5,7,8,9,10,11,12]))))) (.both (z [s 7 10 38] [5,7,8,9,10,11,12,40] (z [⟨some 39,none,.load (.ld 7 true),[.t 7]⟩] [5,7,8,9,10,11,12,39,40] (z [s 7 11 39] [5,7,8,9,10,11,12,40] (z [s 7 12 40] [5,7,8,9,10,11,12] (.ops [] [5,7,8,9,10,11,12]))))) (.top)))) (.top)))) (.top))))) (.both (z [⟨some 10,none,.alloc (.alloc [(.int .u32 0),(.int .u32 0),(.int .i64 0),.nils,(.int .i64 0),(.int .i64 0),(.int .i64 0)]),[]⟩] [5,7,8,9,10,11,38] (.both (z [⟨some 39,none,.load (.ld 7 true),[.t 7]⟩] [5,7,8,9,10,11,38,39] (.both (z [⟨some 40,none,.load (.ld 7 true),[.t 7]⟩] [5,7,8,9,10,11,38,39,40] (z [⟨some 12,none,.alloc (.alloc [(.int .u32 0),(.int .u32 0),(.int .i64 0),.nils,(.int .i64 0),(.int .i64 0),(.int .i64 0)]),[]⟩] [5,7,8,9,10,11,12,38,39,40] (z [s 7 10 38] [5,7,8,9,10,11,12,39,40] (z [s 7 11 39] [5,7,8,9,10,11,12,40] (z [s 7 12 40] [5,7,8,9,10,11,12] (.ops [] [5,7,8,9,10,11,12])))))) (.both (z [⟨some 12,none,.alloc (.alloc [(.int .u32 0),(.int .u32 0),(.int .i64 0),.nils,(.int .i64 0),(.int .i64 0),(.int .i64 0)]),[]⟩] [5,7,8,9,10,11,12,38,39] (.both (z [⟨some 40,none,.load (.ld 7 true),[.t 7]⟩] [5,7,8,9,10,11,12,38,39,40] (z [s 7 10 38] [5,7,8,9,10,11,12,39,40] (z [s 7 11 39] [5,7,8,9,10,11,12,40] (z [s 7 12 40] [5,7,8,9,10,11,12] (.ops [] [5,7,8,9,10,11,12]))))) (.both (z [s 7 10 38] [5,7,8,9,10,11,12,39] (.both (z [⟨some 40,none,.load (.ld 7 true),[.t 7]⟩] [5,7,8,9,10,11,12,39,40] (z [s 7 11 39] [5,7,8,9,10,11,12,40] (z [s 7 12 40] [5,7,8,9,10,11,12] (.ops [] [5,7,8,9,10,11,12])))) (.both (z [s 7 11 39] [5,7,8,9,10,11,12] (z [⟨some 40,none,.load (.ld 7 true),[.t 7]⟩] [5,7,8,9,10,11,12,40] (z [s 7 12 40] [5,7,8,9,10,11,12] (.ops [] [5,7,8,9,10,11,12])))) (.top)))) (.top)))) (.top)))) (.both (z [⟨some 40,none,.load (.ld 7 true),[.t 7]⟩] [5,7,8,9,10,11,38,40] (.both (z [⟨some 39,none,.load (.ld 7 true),[.t 7]⟩] [5,7,8,9,10,11,38,39,40] (z [⟨some 12,none,.alloc (.alloc [(.int .u32 0),(.int .u32 0),(.int .i64 0),.nils,(.int .i64 0),(.int .i64 0),(.int .i64 0)]),[]⟩] [5,7,8,9,10,11,12,38,39,40] (z [s 7 10 38] [5,7,8,9,10,11,12,39,40] (z [s 7 11 39] [5,7,8,9,10,11,12,40] (z [s 7 12 40] [5,7,8,9,10,11,12] (.ops [] [5,7,8,9,10,11,12])))))) (.both (z [⟨some 12,none,.alloc (.alloc [(.int .u32 0),(.int .u32 0),(.int .i64 0),.nils,(.int .i64 0),(.int .i64 0),(.int .i64 0)]),[]⟩] [5,7,8,9,10,11,12,38,40] (.both (z [⟨some 39,none,.load (.ld 7 true),[.t 7]⟩] [5,7,8,9,10,11,12,38,39,40] (z [s 7 10 38] [5,7,8,9,10,11,12,39,40] (z [s 7 11 39] [5,7,8,9,10,11,12,40] (z [s 7 12 40] [5,7,8,9,10,11,12] (.ops [] [5,7,8,9,10,11,12]))))) (.both (z [s 7 10 38] [5,7,8,9,10,11,12,40] (z [⟨some 39,none,.load (.ld 7 true),[.t 7]⟩] [5,7,8,9,10,11,12,39,40] (z [s 7 11 39] [5,7,8,9,10,11,12,40] (z [s 7 12 40] [5,7,8,9,10,11,12] (.ops [] [5,7,8,9,10,11,12]))))) (.top)))) (.top)))) (.both (z [⟨some 12,none,.alloc (.alloc [(.int .u32 0),(.int .u32 0),(.int .i64 0),.nils,(.int .i64 0),(.int .i64 0),(.int .i64 0)]),[]⟩] [5,7,8,9,10,11,12,38] (.both (z [⟨some 39,none,.load (.ld 7 true),[.t 7]⟩] [5,7,8,9,10,11,12,38,39] (.both (z [⟨some 40,none,.load (.ld 7 true),[.t 7]⟩] [5,7,8,9,10,11,12,38,39,40] (z [s 7 10 38] [5,7,8,9,10,11,12,39,40] (z [s 7 11 39] [5,7,8,9,10,11,12,40] (z [s 7 12 40] [5,7,8,9,10,11,12] (.ops [] [5,7,8,9,10,11,12]))))) (.both (z [s 7 10 38] [5,7,8,9,10,11,12,39] (.both (z [⟨some 40,none,.load (.ld 7 true),[.t 7]⟩] [5,7,8,9,10,11,12,39,40] (z [s 7 11 39] [5,7,8,9,10,11,12,40] (z [s 7 12 40] [5,7,8,9,10,11,12] (.ops [] [5,7,8,9,10,11,12])))) (.both (z [s 7 11 39] [5,7,8,9,10,11,12] (z [⟨some 40,none,.load (.ld 7 true),[.t 7]⟩] [5,7,8,9,10,11,12,40] (z [s 7 12 40] [5,7,8,9,10,11,12] (.ops [] [5,7,8,9,10,11,12])))) (.top)))) (.top)))) (.both (z [⟨some 40,none,.load (.ld 7 true),[.t 7]⟩] [5,7,8,9,10,11,12,38,40] (.both (z [⟨some 39,none,.load (.ld 7 true),[.t 7]⟩] [5,7,8,9,10,11,12,38,39,40] (z [s 7 10 38] [5,7,8,9,10,11,12,39,40] (z [s 7 11 39] [5,7,8,9,10,11,12,40] (z [s 7 12 40] [5,7,8,9,10,11,12] (.ops [] [5,7,8,9,10,11,12]))))) (.both (z [s 7 10 38] [5,7,8,9,10,11,12,40] (z [⟨some 39,none,.load (.ld 7 true),[.t 7]⟩] [5,7,8,9,10,11,12,39,40] (z [s 7 11 39] [5,7,8,9,10,11,12,40] (z [s 7 12 40] [5,7,8,9,10,11,12] (.ops [] [5,7,8,9,10,11,12]))))) (.top)))) (.both (z [s 7 10 38] [5,7,8,9,10,11,12] (z [⟨some 39,none,.load (.ld 7 true),[.t 7]⟩] [5,7,8,9,10,11,12,39] (.both (z [⟨some 40,none,.load (.ld 7 true),[.t 7]⟩] [5,7,8,9,10,11,12,39,40] (z [s 7 11 39] [5,7,8,9,10,11,12,40] (z [s 7 12 40] [5,7,8,9,10,11,12] (.ops [] [5,7,8,9,10,11,12])))) (.both (z [s 7 11 39] [5,7,8,9,10,11,12] (z [⟨some 40,none,.load (.ld 7 true),[.t 7]⟩] [5,7,8,9,10,11,12,40] (z [s 7 12 40] [5,7,8,9,10,11,12] (.ops [] [5,7,8,9,10,11,12])))) (.top))))) (.top))))) (.top))))) (.both (z [⟨some 12,none,.alloc (.alloc [(.int .u32 0),(.int .u32 0),(.int .i64 0),.nils,(.int .i64 0),(.int .i64 0),(.int .i64 0)]),[]⟩] [5,7,8,9,11,12,38] (.both (z [⟨some 39,none,.load (.ld 7 true),[.t 7]⟩] [5,7,8,9,11,12,38,39] (.both (z [⟨some 40,none,.load (.ld 7 true),[.t 7]⟩] [5,7,8,9,11,12,38,39,40] (z [⟨some 10,none,.alloc (.alloc [(.int .u32 0),(.int .u32 0),(.int .i64 0),.nils,(.int .i64 0),(.int .i64 0),(.int .i64 0)]),[]⟩] [5,7,8,9,10,11,12,38,39,40] (z [s 7 10 38] [5,7,8,9,10,11,12,39,40] (z [s 7 11 39] [5,7,8,9,10,11,12,40] (z [s 7 12 40] [5,7,8,9,10,11,12] (.ops [] [5,7,8,9,10,11,12])))))) (.both (z [⟨some 10,none,.alloc (.alloc [(.int .u32 0),(.int .u32 0),(.int .i64 0),.nils,(.int .i64 0),(.int .i64 0),(.int .i64 0)]),[]⟩] [5,7,8,9,10,11,12,38,39] (.both (z [⟨some 40,none,.load (.ld 7 true),[.t 7]⟩] [5,7,8,9,10,11,12,38,39,40] (z [s 7 10 38] [5,7,8,9,10,11,12,39,40] (z [s 7 11 39] [5,7,8,9,10,11,12,40] (z [s 7 12 40] [5,7,8,9,10,11,12] (.ops [] [5,7,8,9,10,11,12]))))) (.both (z [s 7 10 38] [5,7,8,9,10,11,12,39] (.both (z [⟨some 40,none,.load (.ld 7 true),[.t 7]⟩] [5,7,8,9,10,11,12,39,40] (z [s 7 11 39] [5,7,8,9,10,11,12,40] (z [s 7 12 40] [5,7,8,9,10,11,12] (.ops [] [5,7,8,9,10,11,12])))) (.both (z [s 7 11 39] [5,7,8,9,10,11,12] (z [⟨some 40,none,.load (.ld 7 true),[.t 7]⟩] [5,7,8,9,10,11,12,40] (z [s 7 12 40] [5,7,8,9,10,11,12] (.ops [] [5,7,8,9,10,11,12])))) (.top)))) (.top)))) (.top)))) (.both (z [⟨some 40,none,.load (.ld 7 true),[.t 7]⟩] [5,7,8,9,11,12,38,40] (.both (z [⟨some 39,none,.load (.ld 7 true),[.t 7]⟩] [5,7,8,9,11,12,38,39,40] (z [⟨some 10,none,.alloc (.alloc [(.int .u32 0),(.int .u32 0),(.int .i64 0),.nils,(.int .i64 0),(.int .i64 0),(.int .i64 0)]),[]⟩] [5,7,8,9,10,11,12,38,39,40] (z [s 7 10 38] [5,7,8,9,10,11,12,39,40] (z [s 7 11 39] [5,7,8,9,10,11,12,40] (z [s 7 12 40] [5,7,8,9,10,11,12] (.ops [] [5,7,8,9,10,11,12])))))) (.both (z [⟨some 10,none,.alloc (.alloc [(.int .u32 0),(.int .u32 0),(.int .i64 0),.nils,(.int .i64 0),(.int .i64 0),(.int .i64 0)]),[]⟩] [5,7,8,9,10,11,12,38,40] (.both (z [⟨some 39,none,.load (.ld 7 true),[.t 7]⟩] [5,7,8,9,10,11,12,38,39,40] (z [s 7 10 38] [5,7,8,9,10,11,12,39,40] (z [s 7 11 39] [5,7,8,9,10,11,12,40] (z [s 7 12 40] [5,7,8,9,10,11,12] (.ops [] [5,7,8,9,10,11,12]))))) (.both (z [s 7 10 38] [5,7,8,9,10,11,12,40] (z [⟨some 39,none,.load (.ld 7 true),[.t 7]⟩] [5,7,8,9,10,11,12,39,40] (z [s 7 11 39] [5,7,8,9,10,11,12,40] (z [s 7 12 40] [5,7,8,9,10,11,12] (.ops [] [5,7,8,9,10,11,12]))))) (.top)))) (.top)))) (.both (z [⟨some 10,none,.alloc (.alloc [(.int .u32 0),(.int .u32 0),(.int .i64 0),.nils,(.int .i64 0),(.int .i64 0),(.int .i64 0)]),[]⟩] [5,7,8,9,10,11,12,38] (.both (z [⟨some 39,none,.load (.ld 7 true),[.t 7]⟩] [5,7,8,9,10,11,12,38,39] (.both (z [⟨some 40,none,.load (.ld 7 true),[.t 7]⟩] [5,7,8,9,10,11,12,38,39,40] (z [s 7 10 38] [5,7,8,9,10,11,12,39,40] (z [s 7 11 39] [5,7,8,9,10,11,12,40] (z [s 7 12 40] [5,7,8,9,10,11,12] (.ops [] [5,7,8,9,10,11,12]))))) (.both (z [s 7 10 38] [5,7,8,9,10,11,12,39] (.both (z [⟨some 40,none,.load (.ld 7 true),[.t 7]⟩] [5,7,8,9,10,11,12,39,40] (z [s 7 11 39] [5,7,8,9,10,11,12,40] (z [s 7 12 40] [5,7,8,9,10,11,12] (.ops [] [5,7,8,9,10,11,12])))) (.both (z [s 7 11 39] [5,7,8,9,10,11,12] (z [⟨some 40,none,.load (.ld 7 true),[.t 7]⟩] [5,7,8,9,10,11,12,40] (z [s 7 12 40] [5,7,8,9,10,11,12] (.ops [] [5,7,8,9,10,11,12])))) (.top)))) (.top)))) (.both (z [⟨some 40,none,.load (.ld 7 true),[.t 7]⟩] [5,7,8,9,10,11,12,38,40] (.both (z [⟨some 39,none,.load (.ld 7 true),[.t 7]⟩] [5,7,8,9,10,11,12,38,39,40] (z [s 7 10 38] [5,7,8,9,10,11,12,39,40] (z [s 7 11 39] [5,7,8,9,10,11,12,40] (z [s 7 12 40] [5,7,8,9,10,11,12] (.ops [] [5,7,8,9,10,11,12]))))) (.both (z [s 7 10 38] [5,7,8,9,10,11,12,40] (z [⟨some 39,none,.load (.ld 7 true),[.t 7]⟩] [5,7,8,9,10,11,12,39,40] (z [s 7 11 39] [5,7,8,9,10,11,12,40] (z [s 7 12 40] [5,7,8,9,10,11,12] (.ops [] [5,7,8,9,10,11,12]))))) (.top)))) (.both (z [s 7 10 38] [5,7,8,9,10,11,12] (z [⟨some 39,none,.load (.ld 7 true),[.t 7]⟩] [5,7,8,9,10,11,12,39] (.both (z [⟨some 40,none,.load (.ld 7 true),[.t 7]⟩] [5,7,8,9,10,11,12,39,40] (z [s 7 11 39] [5,7,8,9,10,11,12,40] (z [s 7 12 40] [5,7,8,9,10,11,12] (.ops [] [5,7,8,9,10,11,12])))) (.both (z [s 7 11 39] [5,7,8,9,10,11,12] (z [⟨some 40,none,.load (.ld 7 true),[.t 7]⟩] [5,7,8,9,10,11,12,40] (z [s 7 12 40] [5,7,8,9,10,11,12] (.ops [] [5,7,8,9,10,11,12])))) (.top))))) (.top))))) (.top))))) (.top)))))) (.both (z [⟨some 12,none,.alloc (.alloc [(.int .u32 0),(.int .u32 0),(.int .i64 0),.nils,(.int .i64 0),(.int .i64 0),(.int .i64 0)]),[]⟩] [5,7,8,9,12,38] (.both (z [⟨some 39,none,.load (.ld 7 true),[.t 7]⟩] [5,7,8,9,12,38,39] (.both (z [⟨some 40,none,.load (.ld 7 true),[.t 7]⟩] [5,7,8,9,12,38,39,40] (z [⟨some 10,none,.alloc (.alloc [(.int .u32 0),(.int .u32 0),(.int .i64 0),.nils,(.int .i64 0),(.int .i64 0),(.int .i64 0)]),[]⟩] [5,7,8,9,10,12,38,39,40] (z [⟨some 11,none,.alloc (.alloc [(.int .u32 0),(.int .u32 0),(.int .i64 0),.nils,(.int .i64 0),(.int .i64 0),(.int .i64 0)]),[]⟩] [5,7,8,9,10,11,12,38,39,40] (z [s 7 10 38] [5,7,8,9,10,11,12,39,40] (z [s 7 11 39] [5,7,8,9,10,11,12,40] (z [s 7 12 40] [5,7,8,9,10,11,12] (.ops [] [5,7,8,9,10,11,12]))))))) (.both (z [⟨some 10,none,.alloc (.alloc [(.int .u32 0),(.int .u32 0),(.int .i64 0),.nils,(.int .i64 0),(.int .i64 0),(.int .i64 0)]),[]⟩] [5,7,8,9,10,12,38,39] (.both (z [⟨some 40,none,.load (.ld 7 true),[.t 7]⟩] [5,7,8,9,10,12,38,39,40] (z [⟨some 11,none,.alloc (.alloc [(.int .u32 0),(.int .u32 0),(.int .i64 0),.nils,(.int .i64 0),(.int .i64 0),(.int .i64 0)]),[]⟩] [5,7,8,9,10,11,12,38,39,40] (z [s 7 10 38] [5,7,8,9,10,11,12,39,40] (z [s 7 11 39] [5,7,8,9,10,11,12,40] (z [s 7 12 40] [5,7,8,9,10,11,12] (.ops [] [5,7,8,9,10,11,12])))))) (.both (z [⟨some 11,none,.alloc (.alloc [(.int .u32 0),(.int .u32 0),(.int .i64 0),.nils,(.int .i64 0),(.int .i64 0),(.int .i64 0)]),[]⟩] [5,7,8,9,10,11,12,38,39] (.both (z [⟨some 40,none,.load (.ld 7 true),[.t 7]⟩] [5,7,8,9,10,11,12,38,39,40] (z [s 7 10 38] [5,7,8,9,10,11,12,39,40] (z [s 7 11 39] [5,7,8,9,10,11,12,40] (z [s 7 12 40] [5,7,8,9,10,11,12] (.ops [] [5,7,8,9,10,11,12]))))) (.both (z [s 7 10 38] [5,7,8,9,10,11,12,39] (.both (z [⟨some 40,none,.load (.ld 7 true),[.t 7]⟩] [5,7,8,9,10,11,12,39,40] (z [s 7 11 39] [5,7,8,9,10,11,12,40] (z [s 7 12 40] [5,7,8,9,10,11,12] (.ops [] [5,7,8,9,10,11,12])))) (.both (z [s 7 11 39] [5,7,8,9,10,11,12] (z [⟨some 40,none,.load (.ld 7 true),[.t 7]⟩] [5,7,8,9,10,11,12,40] (z [s 7 12 40] [5,7,8,9,10,11,12] (.ops [] [5,7,8,9,10,11,12])))) (.top)))) (.top)))) (.top)))) (.both (z [⟨some 11,none,.alloc (.alloc [(.int .u32 0),(.int .u32 0),(.int .i64 0),.nils,(.int .i64 0),(.int .i64 0),(.int .i64 0)]),[]⟩] [5,7,8,9,11,12,38,39] (.both (z [⟨some 40,none,.load (.ld 7 true),[.t 7]⟩] [5,7,8,9,11,12,38,39,40] (z [⟨some 10,none,.alloc (.alloc [(.int .u32 0),(.int .u32 0),(.int .i64 0),.nils,(.int .i64 0),(.int .i64 0),(.int .i64 0)]),[]⟩] [5,7,8,9,10,11,12,38,39,40] (z [s 7 10 38] [5,7,8,9,10,11,12,39,40] (z [s 7 11 39] [5,7,8,9,10,11,12,40] (z [s 7 12 40] [5,7,8,9,10,11,12] (.ops [] [5,7,8,9,10,11,12])))))) (.both (z [⟨some 10,none,.alloc (.alloc [(.int .u32 0),(.int .u32 0),(.int .i64 0),.nils,(.int .i64 0),(.int .i64 0),(.int .i64 0)]),[]⟩] [5,7,8,9,10,11,12,38,39] (.both (z [⟨some 40,none,.load (.ld 7 true),[.t 7]⟩] [5,7,8,9,10,11,12,38,39,40] (z [s 7 10 38] [5,7,8,9,10,11,12,39,40] (z [s 7 11 39] [5,7,8,9,10,11,12,40] (z [s 7 12 40] [5,7,8,9,10,11,12] (.ops [] [5,7,8,9,10,11,12]))))) (.both (z [s 7 10 38] [5,7,8,9,10,11,12,39] (.both (z [⟨some 40,none,.load (.ld 7 true),[.t 7]⟩] [5,7,8,9,10,11,12,39,40] (z [s 7 11 39] [5,7,8,9,10,11,12,40] (z [s 7 12 40] [5,7,8,9,10,11,12] (.ops [] [5,7,8,9,10,11,12])))) (.both (z [s 7 11 39] [5,7,8,9,10,11,12] (z [⟨some 40,none,.load (.ld 7 true),[.t 7]⟩] [5,7,8,9,10,11,12,40] (z [s 7 12 40] [5,7,8,9,10,11,12] (.ops [] [5,7,8,9,10,11,12])))) (.top)))) (.top)))) (.top)))) (.top))))) (.both (z [⟨some 40,none,.load (.ld 7 true),[.t 7]⟩] [5,7,8,9,12,38,40] (.both (z [⟨some 39,none,.load (.ld 7 true),[.t 7]⟩] [5,7,8,9,12,38,39,40] (z [⟨some 10,none,.alloc (.alloc [(.int .u32 0),(.int .u32 0),(.int .i64 0),.nils,(.int .i64 0),(.int .i64 0),(.int .i64 0)]),[]⟩] [5,7,8,9,10,12,38,39,40] (z [⟨some 11,none,.alloc (.alloc [(.int .u32 0),(.int .u32 0),(.int .i64 0),.nils,(.int .i64 0),(.int .i64 0),(.int .i64 0)]),[]⟩] [5,7,8,9,10,11,12,38,39,40] (z [s 7 10 38] [5,7,8,9,10,11,12,39,40] (z [s 7 11 39] [5,7,8,9,10,11,12,40] (z [s 7 12 40] [5,7,8,9,10,11,12] (.ops [] [5,7,8,9,10,11,12]))))))) (.both (z [⟨some 10,none,.alloc (.alloc [(.int .u32 0),(.int .u32 0),(.int .i64 0),.nils,(.int .i64 0),(.int .i64 0),(.int .i64 0)]),[]⟩] [5,7,8,9,10,12,38,40] (.both (z [⟨some 39,none,.load (.ld 7 true),[.t 7]⟩] [5,7,8,9,10,12,38,39,40] (z [⟨some 11,none,.alloc (.alloc [(.int .u32 0),(.int .u32 0),(.int .i64 0),.nils,(.int .i64 0),(.int .i64 0),(.int .i64 0)]),[]⟩] [5,7,8,9,10,11,12,38,39,40] (z [s 7 10 38] [5,7,8,9,10,11,12,39,40] (z [s 7 11 39] [5,7,8,9,10,11,12,40] (z [s 7 12 40] [5,7,8,9,10,11,12] (.ops [] [5,7,8,9,10,11,12])))))) (.both (z [⟨some 11,none,.alloc (.alloc [(.int .u32 0),(.int .u32 0),(.int .i64 0),.nils,(.int .i64 0),(.int .i64 0),(.int .i64 0)]),[]⟩] [5,7,8,9,10,11,12,38,40] (.both (z [⟨some 39,none,.load (.ld 7 true),[.t 7]⟩] [5,7,8,9,10,11,12,38,39,40] (z [s 7 10 38] [5,7,8,9,10,11,12,39,40] (z [s 7 11 39] [5,7,8,9,10,11,12,40] (z [s 7 12 40] [5,7,8,9,10,11,12] (.ops [] [5,7,8,9,10,11,12]))))) (.both (z [s 7 10 38] [5,7,8,9,10,11,12,40] (z [⟨some 39,none,.load (.ld 7 true),[.t 7]⟩] [5,7,8,9,10,11,12,39,40] (z [s 7 11 39] [5,7,8,9,10,11,12,40] (z [s 7 12 40] [5,7,8,9,10,11,12] (.ops [] [5,7,8,9,10,11,12]))))) (.top)))) (.top)))) (.both (z [⟨some 11,none,.alloc (.alloc [(.int .u32 0),(.int .u32 0),(.int .i64 0),.nils,(.int .i64 0),(.int .i64 0),(.int .i64 0)]),[]⟩] [5,7,8,9,11,12,38,40] (.both (z [⟨some 39,none,.load (.ld 7 true),[.t 7]⟩] [5,7,8,9,11,12,38,39,40] (z [⟨some 10,none,.alloc (.alloc [(.int .u32 0),(.int .u32 0),(.int .i64 0),.nils,(.int .i64 0),(.int .i64 0),(.int .i64 0)]),[]⟩] [5,7,8,9,10,11,12,38,39,40] (z [s 7 10 38] [5,7,8,9,10,11,12,39,40] (z [s 7 11 39] [5,7,8,9,10,11,12,40] (z [s 7 12 40] [5,7,8,9,10,11,12] (.ops [] [5,7,8,9,10,11,12])))))) (.both (z [⟨some 10,none,.alloc (.alloc [(.int .u32 0),(.int .u32 0),(.int .i64 0),.nils,(.int .i64 0),(.int .i64 0),(.int .i64 0)]),[]⟩] [5,7,8,9,10,11,12,38,40] (.both (z [⟨some 39,none,.load (.ld 7 true),[.t 7]⟩] [5,7,8,9,10,11,12,38,39,40] (z [s 7 10 38] [5,7,8,9,10,11,12,39,40] (z [s 7 11 39] [5,7,8,9,10,11,12,40] (z [s 7 12 40] [5,7,8,9,10,11,12] (.ops [] [5,7,8,9,10,11,12]))))) (.both (z [s 7 10 38] [5,7,8,9,10,11,12,40] (z [⟨some 39,none,.load (.ld 7 true),[.t 7]⟩] [5,7,8,9,10,11,12,39,40] (z [s 7 11 39] [5,7,8,9,10,11,12,40] (z [s 7 12 40] [5,7,8,9,10,11,12] (.ops [] [5,7,8,9,10,11,12]))))) (.top)))) (.top)))) (.top))))) (.both (z [⟨some 10,none,.alloc (.alloc [(.int .u32 0),(.int .u32 0),(.int .i64 0),.nils,(.int .i64 0),(.int .i64 0),(.int .i64 0)]),[]⟩] [5,7,8,9,10,12,38] (.both (z [⟨some 39,none,.load (.ld 7 true),[.t 7]⟩] [5,7,8,9,10,12,38,39] (.both (z [⟨some 40,none,.load (.ld 7 true),[.t 7]⟩] [5,7,8,9,10,12,38,39,40] (z [⟨some 11,none,.alloc (.alloc [(.int .u32 0),(.int .u32 0),(.int .i64 0),.nils,(.int .i64 0),(.int .i64 0),(.int .i64 0)]),[]⟩] [5,7,8,9,10,11,12,38,39,40] (z [s 7 10 38] [5,7,8,9,10,11,12,39,40] (z [s 7 11 39] [5,7,8,9,10,11,12,40] (z [s 7 12 40] [5,7,8,9,10,11,12] (.ops [] [5,7,8,9,10,11,12])))))) (.both (z [⟨some 11,none,.alloc (.alloc [(.int .u32 0),(.int .u32 0),(.int .i64 0),.nils,(.int .i64 0),(.int .i64 0),(.int .i64 0)]),[]⟩] [5,7,8,9,10,11,12,38,39] (.both (z [⟨some 40,none,.load (.ld 7 true),[.t 7]⟩] [5,7,8,9,10,11,12,38,39,40] (z [s 7 10 38] [5,7,8,9,10,11,12,39,40] (z [s 7 11 39] [5,7,8,9,10,11,12,40] (z [s 7 12 40] [5,7,8,9,10,11,12] (.ops [] [5,7,8,9,10,11,12]))))) (.both (z [s 7 10 38] [5,7,8,9,10,11,12,39] (.both (z [⟨some 40,none,.load (.ld 7 true),[.t 7]⟩] [5,7,8,9,10,11,12,39,40] (z [s 7 11 39] [5,7,8,9,10,11,12,40] (z [s 7 12 40] [5,7,8,9,10,11,12] (.ops [] [5,7,8,9,10,11,12])))) (.both (z [s 7 11 39] [5,7,8,9,10,11,12] (z [⟨some 40,none,.load (.ld 7 true),[.t 7]⟩] [5,7,8,9,10,11,12,40] (z [s 7 12 40] [5,7,8,9,10,11,12] (.ops [] [5,7,8,9,10,11,12])))) (.top)))) (.top)))) (.top)))) (.both (z [⟨some 40,none,.load (.ld 7 true),[.t 7]⟩] [5,7,8,9,10,12,38,40] (.both (z [⟨some 39,none,.load (.ld 7 true),[.t 7]⟩] [5,7,8,9,10,12,38,39,40] (z [⟨some 11,none,.alloc (.alloc [(.int .u32 0),(.int .u32 0),(.int .i64 0),.nils,(.int .i64 0),(.int .i64 0),(.int .i64 0)]),[]⟩] [5,7,8,9,10,11,12,38,39,40] (z [s 7 10 38] [5,7,8,9,10,11,12,39,40] (z [s 7 11 39] [5,7,8,9,10,11,12,40] (z [s 7 12 40] [5,7,8,9,10,11,12] (.ops [] [5,7,8,9,10,11,12])))))) (.both (z [⟨some 11,none,.alloc (.alloc [(.int .u32 0),(.int .u32 0),(.int .i64 0),.nils,(.int .i64 0),(.int .i64 0),(.int .i64 0)]),[]⟩] [5,7,8,9,10,11,12,38,40] (.both (z [⟨some 39,none,.load (.ld 7 true),[.t 7]⟩] [5,7,8,9,10,11,12,38,39,40] (z [s 7 10 38] [5,7,8,9,10,11,12,39,40] (z [s 7 11 39] [5,7,8,9,10,11,12,40] (z [s 7 12 40] [5,7,8,9,10,11,12] (.ops [] [5,7,8,9,10,11,12]))))) (.both (z [s 7 10 38] [5,7,8,9,10,11,12,40] (z [⟨some 39,none,.load (.ld 7 true),[.t 7]⟩] [5,7,8,9,10,11,12,39,40] (z [s 7 11 39] [5,7,8,9,10,11,12,40] (z [s 7 12 40] [5,7,8,9,10,11,12] (.ops [] [5,7,8,9,10,11,12]))))) (.top)))) (.top)))) (.both (z [⟨some 11,none,.alloc (.alloc [(.int .u32 0),(.int .u32 0),(.int .i64 0),.nils,(.int .i64 0),(.int .i64 0),(.int .i64 0)]),[]⟩] [5,7,8,9,10,11,12,38] (.both (z [⟨some 39,none,.load (.ld 7 true),[.t 7]⟩] [5,7,8,9,10,11,12,38,39] (.both (z [⟨some 40,none,.load (.ld 7 true),[.t 7]⟩] [5,7,8,9,10,11,12,38,39,40] (z [s 7 10 38] [5,7,8,9,10,11,12,39,40] (z [s 7 11 39] [5,7,8,9,10,11,12,40] (z [s 7 12 40] [5,7,8,9,10,11,12] (.ops [] [5,7,8,9,10,11,12]))))) (.both (z [s 7 10 38] [5,7,8,9,10,11,12,39] (.both (z [⟨some 40,none,.load (.ld 7 true),[.t 7]⟩] [5,7,8,9,10,11,12,39,40] (z [s 7 11 39] [5,7,8,9,10,11,12,40] (z [s 7 12 40] [5,7,8,9,10,11,12] (.ops [] [5,7,8,9,10,11,12])))) (.both (z [s 7 11 39] [5,7,8,9,10,11,12] (z [⟨some 40,none,.load (.ld 7 true),[.t 7]⟩] [5,7,8,9,10,11,12,40] (z [s 7 12 40] [5,7,8,9,10,11,12] (.ops [] [5,7,8,9,10,11,12])))) (.top)))) (.top)))) (.both (z [⟨some 40,none,.load (.ld 7 true),[.t 7]⟩] [5,7,8,9,10,11,12,38,40] (.both (z [⟨some 39,none,.load (.ld 7 true),[.t 7]⟩] [5,7,8,9,10,11,12,38,39,40] (z [s 7 10 38] [5,7,8,9,10,11,12,39,40] (z [s 7 11 39] [5,7,8,9,10,11,12,40] (z [s 7 12 40] [5,7,8,9,10,11,12] (.ops [] [5,7,8,9,10,11,12]))))) (.both (z [s 7 10 38] [5,7,8,9,10,11,12,40] (z [⟨some 39,none,.load (.ld 7 true),[.t 7]⟩] [5,7,8,9,10,11,12,39,40] (z [s 7 11 39] [5,7,8,9,10,11,12,40] (z [s 7 12 40] [5,7,8,9,10,11,12] (.ops [] [5,7,8,9,10,11,12]))))) (.top)))) (.both (z [s 7 10 38] [5,7,8,9,10,11,12] (z [⟨some 39,none,.load (.ld 7 true),[.t 7]⟩] [5,7,8,9,10,11,12,39] (.both (z [⟨some 40,none,.load (.ld 7 true),[.t 7]⟩] [5,7,8,9,10,11,12,39,40] (z [s 7 11 39] [5,7,8,9,10,11,12,40] (z [s 7 12 40] [5,7,8,9,10,11,12] (.ops [] [5,7,8,9,10,11,12])))) (.both (z [s 7 11 39] [5,7,8,9,10,11,12] (z [⟨some 40,none,.load (.ld 7 true),[.t 7]⟩] [5,7,8,9,10,11,12,40] (z [s 7 12 40] [5,7,8,9,10,11,12] (.ops [] [5,7,8,9,10,11,12])))) (.top))))) (.top))))) (.top))))) (.both (z [⟨some 11,none,.alloc (.alloc [(.int .u32 0),(.int .u32 0),(.int .i64 0),.nils,(.int .i64 0),(.int .i64 0),(.int .i64 0)]),[]⟩] [5,7,8,9,11,12,38] (.both (z [⟨some 39,none,.load (.ld 7 true),[.t 7]⟩] [5,7,8,9,11,12,38,39] (.both (z [⟨some 40,none,.load (.ld 7 true),[.t 7]⟩] [5,7,8,9,11,12,38,39,40] (z [⟨some 10,none,.alloc (.alloc [(.int .u32 0),(.int .u32 0),(.int .i64 0),.nils,(.int .i64 0),(.int .i64 0),(.int .i64 0)]),[]⟩] [5,7,8,9,10,11,12,38,39,40] (z [s 7 10 38] [5,7,8,9,10,11,12,39,40] (z [s 7 11 39] [5,7,8,9,10,11,12,40] (z [s 7 12 40] [5,7,8,9,10,11,12] (.ops [] [5,7,8,9,10,11,12])))))) (.both (z [⟨some 10,none,.alloc (.alloc [(.int .u32 0),(.int .u32 0),(.int .i64 0),.nils,(.int .i64 0),(.int .i64 0),(.int .i64 0)]),[]⟩] [5,7,8,9,10,11,12,38,39] (.both (z [⟨some 40,none,.load (.ld 7 true),[.t 7]⟩] [5,7,8,9,10,11,12,38,39,40] (z [s 7 10 38] [5,7,8,9,10,11,12,39,40] (z [s 7 11 39] [5,7,8,9,10,11,12,40] (z [s 7 12 40] [5,7,8,9,10,11,12] (.ops [] [5,7,8,9,10,11,12]))))) (.both (z [s 7 10 38] [5,7,8,9,10,11,12,39] (.both (z [⟨some 40,none,.load (.ld 7 true),[.t 7]⟩] [5,7,8,9,10,11,12,39,40] (z [s 7 11 39] [5,7,8,9,10,11,12,40] (z [s 7 12 40] [5,7,8,9,10,11,12] (.ops [] [5,7,8,9,10,11,12])))) (.both (z [s 7 11 39] [5,7,8,9,10,11,12] (z [⟨some 40,none,.load (.ld 7 true),[.t 7]⟩] [5,7,8,9,10,11,12,40] (z [s 7 12 40] [5,7,8,9,10,11,12] (.ops [] [5,7,8,9,10,11,12])))) (.top)))) (.top)))) (.top)))) (.both (z [⟨some 40,none,.load (.ld 7 true),[.t 7]⟩] [5,7,8,9,11,12,38,40] (.both (z [⟨some 39,none,.load (.ld 7 true),[.t 7]⟩] [5,7,8,9,11,12,38,39,40] (z [⟨some 10,none,.alloc (.alloc [(.int .u32 0),(.int .u32 0),(.int .i64 0),.nils,(.int .i64 0),(.int .i64 0),(.int .i64 0)]),[]⟩] [5,7,8,9,10,11,12,38,39,40] (z [s 7 10 38] [5,7,8,9,10,11,12,39,40] (z [s 7 11 39] [5,7,8,9,10,11,12,40] (z [s 7 12 40] [5,7,8,9,10,11,12] (.ops [] [5,7,8,9,10,11,12])))))) (.both (z [⟨some 10,none,.alloc (.alloc [(.int .u32 0),(.int .u32 0),(.int .i64 0),.nils,(.int .i64 0),(.int .i64 0),(.int .i64 0)]),[]⟩] [5,7,8,9,10,11,12,38,40] (.both (z [⟨some 39,none,.load (.ld 7 true),[.t 7]⟩] [5,7,8,9,10,11,12,38,39,40] (z [s 7 10 38] [5,7,8,9,10,11,12,39,40] (z [s 7 11 39] [5,7,8,9,10,11,12,40] (z [s 7 12 40] [5,7,8,9,10,11,12] (.ops [] [5,7,8,9,10,11,12]))))) (.both (z [s 7 10 38] [5,7,8,9,10,11,12,40] (z [⟨some 39,none,.load (.ld 7 true),[.t 7]⟩] [5,7,8,9,10,11,12,39,40] (z [s 7 11 39] [5,7,8,9,10,11,12,40] (z [s 7 12 40] [5,7,8,9,10,11,12] (.ops [] [5,7,8,9,10,11,12]))))) (.top)))) (.top)))) (.both (z [⟨some 10,none,.alloc (.alloc [(.int .u32 0),(.int .u32 0),(.int .i64 0),.nils,(.int .i64 0),(.int .i64 0),(.int .i64 0)]),[]⟩] [5,7,8,9,10,11,12,38] (.both (z [⟨some 39,none,.load (.ld 7 true),[.t 7]⟩] [5,7,8,9,10,11,12,38,39] (.both (z [⟨some 40,none,.load (.ld 7 true),[.t 7]⟩] [5,7,8,9,10,11,12,38,39,40] (z [s 7 10 38] [5,7,8,9,10,11,12,39,40] (z [s 7 11 39] [5,7,8,9,10,11,12,40] (z [s 7 12 40] [5,7,8,9,10,11,12] (.ops [] [5,7,8,9,10,11,12]))))) (.both (z [s 7 10 38] [5,7,8,9,10,11,12,39] (.both (z [⟨some 40,none,.load (.ld 7 true),[.t 7]⟩] [5,7,8,9,10,11,12,39,40] (z [s 7 11 39] [5,7,8,9,10,11,12,40] (z [s 7 12 40] [5,7,8,9,10,11,12] (.ops [] [5,7,8,9,10,11,12])))) (.both (z [s 7 11 39] [5,7,8,9,10,11,12] (z [⟨some 40,none,.load (.ld 7 true),[.t 7]⟩] [5,7,8,9,10,11,12,40] (z [s 7 12 40] [5,7,8,9,10,11,12] (.ops [] [5,7,8,9,10,11,12])))) (.top)))) (.top)))) (.both (z [⟨some 40,none,.load (.ld 7 true),[.t 7]⟩] [5,7,8,9,10,11,12,38,40] (.both (z [⟨some 39,none,.load (.ld 7 true),[.t 7]⟩] [5,7,8,9,10,11,12,38,39,40] (z [s 7 10 38] [5,7,8,9,10,11,12,39,40] (z [s 7 11 39] [5,7,8,9,10,11,12,40] (z [s 7 12 40] [5,7,8,9,10,11,12] (.ops [] [5,7,8,9,10,11,12]))))) (.both (z [s 7 10 38] [5,7,8,9,10,11,12,40] (z [⟨some 39,none,.load (.ld 7 true),[.t 7]⟩] [5,7,8,9,10,11,12,39,40] (z [s 7 11 39] [5,7,8,9,10,11,12,40] (z [s 7 12 40] [5,7,8,9,10,11,12] (.ops [] [5,7,8,9,10,11,12]))))) (.top)))) (.both (z [s 7 10 38] [5,7,8,9,10,11,12] (z [⟨some 39,none,.load (.ld 7 true),[.t 7]⟩] [5,7,8,9,10,11,12,39] (.both (z [⟨some 40,none,.load (.ld 7 true),[.t 7]⟩] [5,7,8,9,10,11,12,39,40] (z [s 7 11 39] [5,7,8,9,10,11,12,40] (z [s 7 12 40] [5,7,8,9,10,11,12] (.ops [] [5,7,8,9,10,11,12])))) (.both (z [s 7 11 39] [5,7,8,9,10,11,12] (z [⟨some 40,none,.load (.ld 7 true),[.t 7]⟩] [5,7,8,9,10,11,12,40] (z [s 7 12 40] [5,7,8,9,10,11,12] (.ops [] [5,7,8,9,10,11,12])))) (.top))))) (.top))))) (.top))))) (.top)))))) (.top))))))) t11_41)) (.ops [m 36 9,c 37 .add 36 1,m 9 37] [5,7,8,9])))))) (z [g 112 39 [],m 6 112] [6] .ret))))))
def F11:Fn Try.prog 11:=Fn.mkW false [15] b11 [.t 6] 113 Try.f11 _ Try.func11 (by decide) rfl Try.ntmps11 (by kernel_rfl) (by kernel_rfl)
end Go.Am.Ts29
namespace Go.Am
open Go.Proofs Go.Sort
theorem qq {T:Store} {p g m:Nat} {L:List (List AV)} {K:AV→Store→Prop} (hm:L.length=m) (hp:T p=none) (hg:T g=some (.arr 4 L)) (hl:1≤m∧m≤4)
 (h:∀ gx s,Store.sub T s→T gx=none→s gx=some (.arr 4 L)→K (.os gx 4 0 m) s):appwp 4 56 (.os p 4 0 0) (.os g 4 0 m) (T.set p (.arr 4 [])) K:=by
 subst hm
 have hs:=Store.sub_set T p (.arr 4 []) hp
 refine Own.appP (τ:=T) (ys:=L) (L:=[]) hs (.inr ⟨p,rfl,hp,Store.set_same _ _ _⟩) (zw (hs _ _ hg) rfl) (by simp;omega) fun v' s' q1 q2 q3 => ?_
 rw [List.nil_append] at q2
 rcases q2 with ⟨e,_⟩ | ⟨gx,rfl,h1,h2⟩
 ·rw [e] at hl;simp at hl
 ·exact h gx s' q1 h1 h2
def outL (ps:List Peer) (j:Nat) (hj:j<ps.length) (v:AV):List (List AV):=(ps.map Peer.c).set j [.int .u32 ps[j].asn,.int .u32 ps[j].ad,.sl 12 (ps[j].inn.map Rule.c),v]
theorem z6w (c:Cfg) (j:Nat) (hj:j<c.ps.length) (v:AV) (o:List Rule):(outL c.ps j hj v).set j [.int .u32 c.ps[j].asn,.int .u32 c.ps[j].ad,.sl 12 (c.ps[j].inn.map Rule.c),.sl 12 (o.map Rule.c)]=(c.put j hj o).ps.map Peer.c:=by
 unfold outL
 rw [List.set_set]
 simp only [Cfg.put,List.map_set]
 rfl
theorem z6u (ps:List Peer) (j:Nat) (hj:j<ps.length) (v:AV):(outL ps j hj v)[j]? = some [.int .u32 ps[j].asn,.int .u32 ps[j].ad,.sl 12 (ps[j].inn.map Rule.c),v]:=by
 unfold outL
 rw [List.getElem?_set_self (by rw [List.length_map];exact hj)]
theorem WeakE.frzOut {e:Env} {σ:Store} {Q:Env→Store→Prop} {c:Cfg} {j:Nat} {hj:j<c.ps.length} {g r:Nat} {ρ:Rule} (hg:σ g=some (.arr 4 (outL c.ps j hj (.os r 12 0 1)))) (hr:σ r=some (.arr 12 [ρ.c])) (hgr:¬ g=r)
 (h:∀ Y:Store,Y g=some (.arr 4 ((c.put j hj [ρ]).ps.map Peer.c))→(∀ q o,¬ q=g→¬ q=r→σ q=some o→Y q=some o)→WeakE e Y Q):WeakE e σ Q:=by
 refine WeakE.frzArr g j 3 hg (z6u _ _ _ _) rfl hr hgr (by simp) (h _ ?_ fun q o h1 h2 h3 => ?_)
 ·rw [Store.set_same]
  have:=z6w c j hj (.os r 12 0 1) [ρ]
  rw [←this];rfl
 ·rw [Store.set_ne _ _ h1,Store.del_ne _ h2];exact h3
theorem z6v (c:Cfg) (j:Nat) (hj:j<c.ps.length):Rels ImpL (outL c.ps j hj .nils) ((c.put j hj []).ps.map Peer.c):=by
 refine z2d (by simp [outL,Cfg.put]) fun i h1 h2 => ?_
 have hi:i<c.ps.length:=by simpa [outL] using h1
 by_cases e:j=i
 ·subst e
  simp only [outL,Cfg.put,List.getElem_set_self,List.getElem_map]
  exact .cons (.refl rfl) (.cons (.refl rfl) (.cons (.refl (by simp [AV.flat])) (.cons .nils .nil)))
 ·simp only [outL,Cfg.put,List.getElem_set_ne e,List.getElem_map]
  exact ImpL.refl _ (by simp [Peer.c,AV.flat])
section
variable {e:Cfg} {B:Store} {nn rr:Env→Store→Prop} {xx:Nat→Env→Store→Prop} {p5 p7 p8 p10 p11 p12 g:Nat}
set_option maxHeartbeats 2000000 in
set_option maxRecDepth 20000 in
theorem z5m {T:Store} (hK:Kept e) (b:PathR) (j:Nat) (hj:j<e.ps.length) (te:Easy b.a) (tl:∀ ls,b.a.path=[⟨2,ls⟩]→ls.length≤9) (x n:Int) (hx:0≤x) (hB:Store.sub B T) (B5:B p5=some (.box b.c)) (B7:B p7=some (.box (e.cV (.os g 4 0 e.ps.length)))) (B8:B p8=some (.box [.int .u32 (prefixF x n).1,.int .i64 (prefixF x n).2])) (Bg:B g=some (.arr 4 (e.ps.map Peer.c)))
 (b10:B p10=none) (b11:B p11=none) (b12:B p12=none) (T10:T p10=some (.box (e.cV (.os g 4 0 e.ps.length)))) (T11:T p11=some (.box (e.cV (.os g 4 0 e.ps.length)))) (T12:T p12=some (.box (e.cV (.os g 4 0 e.ps.length)))) (n1:¬ p10=p11) (n2:¬ p10=p12) (n3:¬ p11=p12)
 (hn:∀ E T',Store.sub B T'→nn ((5,.ptr p5 0)::(7,.ptr p7 0)::(8,.ptr p8 0)::(9,.int .i64 (j:Int))::E) T') :
 bwp Try.prog Ts29.t11_41 [(5,.ptr p5 0),(7,.ptr p7 0),(8,.ptr p8 0),(9,.int .i64 (j:Int)),(10,.ptr p10 0),(11,.ptr p11 0),(12,.ptr p12 0)] T nn rr xx:=by
 simp only [Ts29.t11_41,x9]
 have c7:∀ (e:Cfg) v,(e.cV v).length=7:=fun _ _=>rfl
 have t7:∀ (e:Cfg) v,List.take 7 (e.cV v)=e.cV v:=fun _ _=>rfl
 have f3:∀ (e:Cfg) v,List.take 1 (List.drop 3 (e.cV v))=[v]:=fun _ _=>rfl
 have w3:∀ (e:Cfg) v v',splice 3 [v] (e.cV v')=some (e.cV v):=fun _ _ _=>rfl
 have c13:∀ b:PathR,b.c.length=13:=fun _=>rfl
 have t13:∀ b:PathR,List.take 13 b.c=b.c:=fun _=>rfl
 have e9:∀ y:At,y.c.length=9:=fun _=>rfl
 have t9:∀ y:At,List.take 9 y.c=y.c:=fun _=>rfl
 have hz:∀ y:At,splice 0 y.c zCells=some y.c:=fun _=>rfl
 have hl:=hK.len
 have hlm:(e.ps.map Peer.c).length=e.ps.length:=List.length_map _
 have d7:¬ p7=p10∧¬ p7=p11∧¬ p7=p12:=⟨(fun h=>by subst h;rw [B7] at b10;cases b10),(fun h=>by subst h;rw [B7] at b11;cases b11),(fun h=>by subst h;rw [B7] at b12;cases b12)⟩
 have dg:¬ g=p10∧¬ g=p11∧¬ g=p12:=⟨(fun h=>by subst h;rw [Bg] at b10;cases b10),(fun h=>by subst h;rw [Bg] at b11;cases b11),(fun h=>by subst h;rw [Bg] at b12;cases b12)⟩
 have T7:=hB _ _ B7
 have Tg:=hB _ _ Bg
 simp only [↓vcPre,↓z0,↓reduceIte,vcPost,vcStd,Nat.reduceEqDiff,reduceCtorEq,Nat.reduceAdd,Nat.reduceLeDiff,Int.reduceLT,Int.reduceLE,↓u_setN]
 refine AllocQ.i0 fun p20 h20 => ?_
 have s20:=Store.sub_set T p20 (.arr 4 []) h20
 have U7:=s20 _ _ T7
 simp only [U7,c7,f3,↓vcPre,↓z0,↓reduceIte,vcPost,vcStd,Nat.reduceEqDiff,reduceCtorEq,Nat.reduceAdd,Nat.reduceLeDiff,Int.reduceLT,Int.reduceLE,↓u_setN]
 refine qq hlm h20 Tg hl fun gx U sU hgx Ugx => ?_
 clear s20 U7 h20
 have nx:¬ gx=p10∧¬ gx=p11∧¬ gx=p12:=⟨(fun h=>by subst h;rw [T10] at hgx;cases hgx),(fun h=>by subst h;rw [T11] at hgx;cases hgx),(fun h=>by subst h;rw [T12] at hgx;cases hgx)⟩
 have bgx:=zk hB hgx
 have U10:=sU _ _ T10
 simp only [U10,w3,↓vcPre,↓z0,↓reduceIte,vcPost,vcStd,Nat.reduceEqDiff,reduceCtorEq,Nat.reduceAdd,Nat.reduceLeDiff,Int.reduceLT,Int.reduceLE,↓u_setN]
 have V10:=Store.set_same U p10 (.box (e.cV (.os gx 4 0 e.ps.length)))
 have V11:(U.set p10 (.box (e.cV (.os gx 4 0 e.ps.length)))) p11=_:=(Store.set_ne _ _ (fun h=>n1 h.symm)).trans (sU _ _ T11)
 have V12:(U.set p10 (.box (e.cV (.os gx 4 0 e.ps.length)))) p12=_:=(Store.set_ne _ _ (fun h=>n2 h.symm)).trans (sU _ _ T12)
 have Vgx:(U.set p10 (.box (e.cV (.os gx 4 0 e.ps.length)))) gx=_:=(Store.set_ne _ _ nx.1).trans Ugx
 have sV:Store.sub B (U.set p10 (.box (e.cV (.os gx 4 0 e.ps.length)))):=zb (Store.sub_trans hB sU) b10
 generalize U.set p10 (.box (e.cV (.os gx 4 0 e.ps.length)))=V at V10 V11 V12 Vgx sV ⊢
 clear U10 Ugx sU hgx T10 T11 T12 T7 Tg hB
 refine AllocQ.i0 fun p21 h21 => ?_
 have U7:=Store.sub_set V p21 (.arr 4 []) h21 _ _ (sV _ _ B7)
 simp only [U7,c7,f3,↓vcPre,↓z0,↓reduceIte,vcPost,vcStd,Nat.reduceEqDiff,reduceCtorEq,Nat.reduceAdd,Nat.reduceLeDiff,Int.reduceLT,Int.reduceLE,↓u_setN]
 refine qq hlm h21 (sV _ _ Bg) hl fun gy U sU hgy Ugy => ?_
 clear U7 h21
 have ny:¬ gy=p10∧¬ gy=p11∧¬ gy=p12∧¬ gy=gx:=⟨(fun h=>by subst h;rw [V10] at hgy;cases hgy),(fun h=>by subst h;rw [V11] at hgy;cases hgy),(fun h=>by subst h;rw [V12] at hgy;cases hgy),(fun h=>by subst h;rw [Vgx] at hgy;cases hgy)⟩
 have bgy:=zk sV hgy
 have U11:=sU _ _ V11
 simp only [U11,w3,↓vcPre,↓z0,↓reduceIte,vcPost,vcStd,Nat.reduceEqDiff,reduceCtorEq,Nat.reduceAdd,Nat.reduceLeDiff,Int.reduceLT,Int.reduceLE,↓u_setN]
 have W11:=Store.set_same U p11 (.box (e.cV (.os gy 4 0 e.ps.length)))
 have W10:(U.set p11 (.box (e.cV (.os gy 4 0 e.ps.length)))) p10=_:=(Store.set_ne _ _ n1).trans (sU _ _ V10)
 have W12:(U.set p11 (.box (e.cV (.os gy 4 0 e.ps.length)))) p12=_:=(Store.set_ne _ _ (fun h=>n3 h.symm)).trans (sU _ _ V12)
 have Wgx:(U.set p11 (.box (e.cV (.os gy 4 0 e.ps.length)))) gx=_:=(Store.set_ne _ _ nx.2.1).trans (sU _ _ Vgx)
 have Wgy:(U.set p11 (.box (e.cV (.os gy 4 0 e.ps.length)))) gy=_:=(Store.set_ne _ _ ny.2.1).trans Ugy
 have sW:Store.sub B (U.set p11 (.box (e.cV (.os gy 4 0 e.ps.length)))):=zb (Store.sub_trans sV sU) b11
 generalize U.set p11 (.box (e.cV (.os gy 4 0 e.ps.length)))=W at W10 W11 W12 Wgx Wgy sW ⊢
 clear U11 Ugy sU hgy V10 V11 V12 Vgx sV
 refine AllocQ.i0 fun p22 h22 => ?_
 have U7:=Store.sub_set W p22 (.arr 4 []) h22 _ _ (sW _ _ B7)
 simp only [U7,c7,f3,↓vcPre,↓z0,↓reduceIte,vcPost,vcStd,Nat.reduceEqDiff,reduceCtorEq,Nat.reduceAdd,Nat.reduceLeDiff,Int.reduceLT,Int.reduceLE,↓u_setN]
 refine qq hlm h22 (sW _ _ Bg) hl fun gz U sU hgz Ugz => ?_
 clear U7 h22
 have nz:¬ gz=p10∧¬ gz=p11∧¬ gz=p12∧¬ gz=gx∧¬ gz=gy:=⟨(fun h=>by subst h;rw [W10] at hgz;cases hgz),(fun h=>by subst h;rw [W11] at hgz;cases hgz),(fun h=>by subst h;rw [W12] at hgz;cases hgz),(fun h=>by subst h;rw [Wgx] at hgz;cases hgz),(fun h=>by subst h;rw [Wgy] at hgz;cases hgz)⟩
 have bgz:=zk sW hgz
 have U12:=sU _ _ W12
 have U10:=sU _ _ W10
 have Ugx:=sU _ _ Wgx
 have egj:∀ h,(List.map Peer.c e.ps)[0+j]'h=e.ps[j].c:=fun h=>by
  simp only [Nat.zero_add];exact List.getElem_map ..
 have hji:(j:Int)<(e.ps.length:Int):=by omega
 simp only [U12,w3,n2,U10,c7,f3,hji,↓vcPre,↓z0,↓reduceIte,vcPost,vcStd,Nat.reduceEqDiff,reduceCtorEq,Nat.reduceAdd,Nat.reduceLeDiff,Int.reduceLT,Int.reduceLE,↓u_setN]
 have X12:=Store.set_same U p12 (.box (e.cV (.os gz 4 0 e.ps.length)))
 have X10:(U.set p12 (.box (e.cV (.os gz 4 0 e.ps.length)))) p10=_:=(Store.set_ne _ _ n2).trans U10
 have X11:(U.set p12 (.box (e.cV (.os gz 4 0 e.ps.length)))) p11=_:=(Store.set_ne _ _ n3).trans (sU _ _ W11)
 have Xgx:(U.set p12 (.box (e.cV (.os gz 4 0 e.ps.length)))) gx=_:=(Store.set_ne _ _ nx.2.2).trans Ugx
 have Xgy:(U.set p12 (.box (e.cV (.os gz 4 0 e.ps.length)))) gy=_:=(Store.set_ne _ _ ny.2.2.1).trans (sU _ _ Wgy)
 have Xgz:(U.set p12 (.box (e.cV (.os gz 4 0 e.ps.length)))) gz=_:=(Store.set_ne _ _ nz.2.2.1).trans Ugz
 have sX:Store.sub B (U.set p12 (.box (e.cV (.os gz 4 0 e.ps.length)))):=zb (Store.sub_trans sW sU) b12
 generalize U.set p12 (.box (e.cV (.os gz 4 0 e.ps.length)))=X at X10 X11 X12 Xgx Xgy Xgz sX ⊢
 clear U12 U10 Ugx Ugz sU hgz W10 W11 W12 Wgx Wgy sW
 refine AllocQ.i0 fun r1 hr1 => ?_
 have m1:¬ p10=r1∧¬ p11=r1∧¬ p12=r1∧¬ gx=r1∧¬ gy=r1∧¬ gz=r1:=⟨(fun h=>by subst h;rw [X10] at hr1;cases hr1),(fun h=>by subst h;rw [X11] at hr1;cases hr1),(fun h=>by subst h;rw [X12] at hr1;cases hr1),(fun h=>by subst h;rw [Xgx] at hr1;cases hr1),(fun h=>by subst h;rw [Xgy] at hr1;cases hr1),(fun h=>by subst h;rw [Xgz] at hr1;cases hr1)⟩
 have wr:∀ v,splice 3 [v] e.ps[j].c=some [.int .u32 e.ps[j].asn,.int .u32 e.ps[j].ad,.sl 12 (e.ps[j].inn.map Rule.c),v]:=fun _=>rfl
 simp only [m1.2.2.2.1,Xgx,hlm,egj,wr,↓vcPre,↓z0,↓reduceIte,vcPost,vcStd,Nat.reduceEqDiff,reduceCtorEq,Nat.reduceAdd,Nat.reduceLeDiff,Int.reduceLT,Int.reduceLE,↓u_setN]
 have hoL:∀ v,(List.map Peer.c e.ps).set (0+j) [.int .u32 e.ps[j].asn,.int .u32 e.ps[j].ad,.sl 12 (e.ps[j].inn.map Rule.c),v]=outL e.ps j hj v:=fun v=>by rw [Nat.zero_add];rfl
 have br1:=zk sX hr1
 refine ⟨hj,by omega,?_⟩
 rw [hoL]
 have hrc:[AV.int .u32 0,.int .i64 0,.int .i64 0,.int .i64 32,.int .u32 0,.bool true,.bool false,.int .u32 0,.bool false,.int .u32 0,.int .i64 0,.int .u32 0]=ruleV.c:=rfl
 rw [hrc]
 have Yx:=Store.set_same (X.set r1 (.arr 12 [ruleV.c])) gx (.arr 4 (outL e.ps j hj (.os r1 12 0 1)))
 have Y10:((X.set r1 (.arr 12 [ruleV.c])).set gx (.arr 4 (outL e.ps j hj (.os r1 12 0 1)))) p10=_:=(Store.set_ne _ _ (fun h=>nx.1 h.symm)).trans ((Store.set_ne _ _ m1.1).trans X10)
 have Y11:((X.set r1 (.arr 12 [ruleV.c])).set gx (.arr 4 (outL e.ps j hj (.os r1 12 0 1)))) p11=_:=(Store.set_ne _ _ (fun h=>nx.2.1 h.symm)).trans ((Store.set_ne _ _ m1.2.1).trans X11)
 have Y12:((X.set r1 (.arr 12 [ruleV.c])).set gx (.arr 4 (outL e.ps j hj (.os r1 12 0 1)))) p12=_:=(Store.set_ne _ _ (fun h=>nx.2.2 h.symm)).trans ((Store.set_ne _ _ m1.2.2.1).trans X12)
 have Yy:((X.set r1 (.arr 12 [ruleV.c])).set gx (.arr 4 (outL e.ps j hj (.os r1 12 0 1)))) gy=_:=(Store.set_ne _ _ ny.2.2.2).trans ((Store.set_ne _ _ m1.2.2.2.2.1).trans Xgy)
 have Yz:((X.set r1 (.arr 12 [ruleV.c])).set gx (.arr 4 (outL e.ps j hj (.os r1 12 0 1)))) gz=_:=(Store.set_ne _ _ nz.2.2.2.1).trans ((Store.set_ne _ _ m1.2.2.2.2.2).trans Xgz)
 have Yr:((X.set r1 (.arr 12 [ruleV.c])).set gx (.arr 4 (outL e.ps j hj (.os r1 12 0 1)))) r1=_:=(Store.set_ne _ _ (fun h=>m1.2.2.2.1 h.symm)).trans (Store.set_same _ _ _)
 have sY:Store.sub B ((X.set r1 (.arr 12 [ruleV.c])).set gx (.arr 4 (outL e.ps j hj (.os r1 12 0 1)))):=zb (zb sX br1) bgx
 generalize (X.set r1 (.arr 12 [ruleV.c])).set gx (.arr 4 (outL e.ps j hj (.os r1 12 0 1)))=Y at Yx Y10 Y11 Y12 Yy Yz Yr sY ⊢
 clear X10 X11 X12 Xgx Xgy Xgz sX hr1
 simp only [Y11,c7,f3,hji,Yy,hlm,egj,wr,↓vcPre,↓z0,↓reduceIte,vcPost,vcStd,Nat.reduceEqDiff,reduceCtorEq,Nat.reduceAdd,Nat.reduceLeDiff,Int.reduceLT,Int.reduceLE,↓u_setN]
 refine ⟨by omega,?_⟩
 rw [hoL]
 have Zy:=Store.set_same Y gy (.arr 4 (outL e.ps j hj .nils))
 have Z10:(Y.set gy (.arr 4 (outL e.ps j hj .nils))) p10=_:=(Store.set_ne _ _ (fun h=>ny.1 h.symm)).trans Y10
 have Z11:(Y.set gy (.arr 4 (outL e.ps j hj .nils))) p11=_:=(Store.set_ne _ _ (fun h=>ny.2.1 h.symm)).trans Y11
 have Z12:(Y.set gy (.arr 4 (outL e.ps j hj .nils))) p12=_:=(Store.set_ne _ _ (fun h=>ny.2.2.1 h.symm)).trans Y12
 have Zx:(Y.set gy (.arr 4 (outL e.ps j hj .nils))) gx=_:=(Store.set_ne _ _ (fun h=>ny.2.2.2 h.symm)).trans Yx
 have Zz:(Y.set gy (.arr 4 (outL e.ps j hj .nils))) gz=_:=(Store.set_ne _ _ nz.2.2.2.2).trans Yz
 have m2:¬ r1=gy:=fun h=>by subst h;rw [Yr] at Yy;cases Yy
 have Zr:(Y.set gy (.arr 4 (outL e.ps j hj .nils))) r1=_:=(Store.set_ne _ _ m2).trans Yr
 have sZ:Store.sub B (Y.set gy (.arr 4 (outL e.ps j hj .nils))):=zb sY bgy
 generalize Y.set gy (.arr 4 (outL e.ps j hj .nils))=Z at Zy Z10 Z11 Z12 Zx Zz Zr sZ ⊢
 clear Yx Y10 Y11 Y12 Yy Yz Yr sY
 simp only [Z12,c7,f3,hji,↓vcPre,↓z0,↓reduceIte,vcPost,vcStd,Nat.reduceEqDiff,reduceCtorEq,Nat.reduceAdd,Nat.reduceLeDiff,Int.reduceLT,Int.reduceLE,↓u_setN]
 refine AllocQ.i0 fun r2 hr2 => ?_
 have m3:¬ p10=r2∧¬ p11=r2∧¬ p12=r2∧¬ gx=r2∧¬ gy=r2∧¬ gz=r2∧¬ r1=r2:=⟨(fun h=>by subst h;rw [Z10] at hr2;cases hr2),(fun h=>by subst h;rw [Z11] at hr2;cases hr2),(fun h=>by subst h;rw [Z12] at hr2;cases hr2),(fun h=>by subst h;rw [Zx] at hr2;cases hr2),(fun h=>by subst h;rw [Zy] at hr2;cases hr2),(fun h=>by subst h;rw [Zz] at hr2;cases hr2),(fun h=>by subst h;rw [Zr] at hr2;cases hr2)⟩
 have br2:=zk sZ hr2
 simp only [m3.2.2.2.2.2.1,Zz,hlm,egj,wr,↓vcPre,↓z0,↓reduceIte,vcPost,vcStd,Nat.reduceEqDiff,reduceCtorEq,Nat.reduceAdd,Nat.reduceLeDiff,Int.reduceLT,Int.reduceLE,↓u_setN]
 refine ⟨hj,by omega,?_⟩
 rw [hoL]
 have hrd:[AV.int .u32 2147483648,.int .i64 1,.int .i64 0,.int .i64 32,.int .u32 0,.bool true,.bool false,.int .u32 0,.bool false,.int .u32 0,.int .i64 0,.int .u32 0]=ruleW.c:=rfl
 rw [hrd]
 have Az:=Store.set_same (Z.set r2 (.arr 12 [ruleW.c])) gz (.arr 4 (outL e.ps j hj (.os r2 12 0 1)))
 have A10:((Z.set r2 (.arr 12 [ruleW.c])).set gz (.arr 4 (outL e.ps j hj (.os r2 12 0 1)))) p10=_:=(Store.set_ne _ _ (fun h=>nz.1 h.symm)).trans ((Store.set_ne _ _ m3.1).trans Z10)
 have A11:((Z.set r2 (.arr 12 [ruleW.c])).set gz (.arr 4 (outL e.ps j hj (.os r2 12 0 1)))) p11=_:=(Store.set_ne _ _ (fun h=>nz.2.1 h.symm)).trans ((Store.set_ne _ _ m3.2.1).trans Z11)
 have A12:((Z.set r2 (.arr 12 [ruleW.c])).set gz (.arr 4 (outL e.ps j hj (.os r2 12 0 1)))) p12=_:=(Store.set_ne _ _ (fun h=>nz.2.2.1 h.symm)).trans ((Store.set_ne _ _ m3.2.2.1).trans Z12)
 have Ax:((Z.set r2 (.arr 12 [ruleW.c])).set gz (.arr 4 (outL e.ps j hj (.os r2 12 0 1)))) gx=_:=(Store.set_ne _ _ (fun h=>nz.2.2.2.1 h.symm)).trans ((Store.set_ne _ _ m3.2.2.2.1).trans Zx)
 have Ay:((Z.set r2 (.arr 12 [ruleW.c])).set gz (.arr 4 (outL e.ps j hj (.os r2 12 0 1)))) gy=_:=(Store.set_ne _ _ (fun h=>nz.2.2.2.2 h.symm)).trans ((Store.set_ne _ _ m3.2.2.2.2.1).trans Zy)
 have m4:¬ r1=gz:=fun h=>by subst h;rw [Zr] at Zz;cases Zz
 have Ar1:((Z.set r2 (.arr 12 [ruleW.c])).set gz (.arr 4 (outL e.ps j hj (.os r2 12 0 1)))) r1=_:=(Store.set_ne _ _ m4).trans ((Store.set_ne _ _ m3.2.2.2.2.2.2).trans Zr)
 have Ar2:((Z.set r2 (.arr 12 [ruleW.c])).set gz (.arr 4 (outL e.ps j hj (.os r2 12 0 1)))) r2=_:=(Store.set_ne _ _ (fun h=>m3.2.2.2.2.2.1 h.symm)).trans (Store.set_same _ _ _)
 have sA:Store.sub B ((Z.set r2 (.arr 12 [ruleW.c])).set gz (.arr 4 (outL e.ps j hj (.os r2 12 0 1)))):=zb (zb sZ br2) bgz
 generalize (Z.set r2 (.arr 12 [ruleW.c])).set gz (.arr 4 (outL e.ps j hj (.os r2 12 0 1)))=A at Ax Ay Az A10 A11 A12 Ar1 Ar2 sA ⊢
 clear Zx Zy Zz Z10 Z11 Z12 Zr sZ hr2
 refine WkQ.of (WeakE.frzOut Ax Ar1 m1.2.2.2.1 fun C Cx hC => ?_)
 have C10:=hC _ _ (fun h=>nx.1 h.symm) m1.1 A10
 have C11:=hC _ _ (fun h=>nx.2.1 h.symm) m1.2.1 A11
 have C12:=hC _ _ (fun h=>nx.2.2 h.symm) m1.2.2.1 A12
 have Cy:=hC _ _ ny.2.2.2 (fun h=>m2 h.symm) Ay
 have Cz:=hC _ _ nz.2.2.2.1 (fun h=>m4 h.symm) Az
 have Cr:=hC _ _ (fun h=>m3.2.2.2.1 h.symm) (fun h=>m3.2.2.2.2.2.2 h.symm) Ar2
 have sC:Store.sub B C:=fun q o hq=>hC q o (fun h=>by subst h;rw [bgx] at hq;cases hq) (fun h=>by subst h;rw [br1] at hq;cases hq) (sA _ _ hq)
 clear hC Ax Ay Az A10 A11 A12 Ar1 Ar2 sA
 refine WeakE.frzOut Cz Cr m3.2.2.2.2.2.1 fun D Dz hD => ?_
 have D10:=hD _ _ (fun h=>nz.1 h.symm) m3.1 C10
 have D11:=hD _ _ (fun h=>nz.2.1 h.symm) m3.2.1 C11
 have D12:=hD _ _ (fun h=>nz.2.2.1 h.symm) m3.2.2.1 C12
 have Dx:=hD _ _ (fun h=>nz.2.2.2.1 h.symm) m3.2.2.2.1 Cx
 have Dy:=hD _ _ (fun h=>nz.2.2.2.2 h.symm) m3.2.2.2.2.1 Cy
 have sD:Store.sub B D:=fun q o hq=>hD q o (fun h=>by subst h;rw [bgz] at hq;cases hq) (fun h=>by subst h;rw [br2] at hq;cases hq) (sC _ _ hq)
 clear hD Cx Cy Cz C10 C11 C12 Cr sC
 refine WeakE.arrImp gy Dy (z6v e j hj) (WeakE.pure ?_)
 have E10:=(Store.set_ne D (.arr 4 ((e.put j hj []).ps.map Peer.c)) (fun h=>ny.1 h.symm)).trans D10
 have E11:=(Store.set_ne D (.arr 4 ((e.put j hj []).ps.map Peer.c)) (fun h=>ny.2.1 h.symm)).trans D11
 have E12:=(Store.set_ne D (.arr 4 ((e.put j hj []).ps.map Peer.c)) (fun h=>ny.2.2.1 h.symm)).trans D12
 have Ex:=(Store.set_ne D (.arr 4 ((e.put j hj []).ps.map Peer.c)) (fun h=>ny.2.2.2 h.symm)).trans Dx
 have Ez:=(Store.set_ne D (.arr 4 ((e.put j hj []).ps.map Peer.c)) nz.2.2.2.2).trans Dz
 have Ey:=Store.set_same D gy (.arr 4 ((e.put j hj []).ps.map Peer.c))
 have sE:Store.sub B (D.set gy (.arr 4 ((e.put j hj []).ps.map Peer.c))):=zb sD bgy
 generalize D.set gy (.arr 4 ((e.put j hj []).ps.map Peer.c))=E at E10 E11 E12 Ex Ey Ez sE ⊢
 clear D10 D11 D12 Dx Dy Dz sD
 simp only [E10,c7,t7,sE _ _ B8,sE _ _ B5,c13,t13,↓vcPre,↓z0,↓reduceIte,vcPost,vcStd,Nat.reduceEqDiff,reduceCtorEq,Nat.reduceAdd,Nat.reduceLeDiff,Int.reduceLT,Int.reduceLE,↓u_setN]
 have hq:rightF (prefixF x n).1 (prefixF x n).2=true:=z0e _ _
 have tld:∀ (o:List Rule),rulesOk o=true→∀ (gg:Nat) (t:Store),t gg=some (.arr 4 ((e.put j hj o).ps.map Peer.c))→ACalls Try.prog 38 [.agg (e.cV (.os gg 4 0 e.ps.length)),.int .i64 (j:Int),.agg [.int .u32 (prefixF x n).1,.int .i64 (prefixF x n).2],.agg b.c] t (fun r s=>s=t∧r = .tup [.agg (toldA (e.put j hj o) j (prefixF x n) b).1.c,.bool (toldA (e.put j hj o) j (prefixF x n) b).2]):=fun o ho gg t ht=>by
  have h:=Rd.os ht
  rw [List.length_map,wo] at h
  exact s38 (e.put j hj o) (um hK j hj o ho).fit j (prefixF x n) b te.aok h
 have hjp:∀ o,j<(e.put j hj o).ps.length:=fun o=>by rw [wo];exact hj
 have kY:=um hK j hj [] rfl
 have kZ:=um hK j hj [ruleW] okZ
 have hX:(toldA (e.put j hj [ruleV]) j (prefixF x n) b).2=false:=z8y (hjp _) fun a=>by rw [xp];exact za8 _ _ hq a
 have hYZ:toldA (e.put j hj [ruleW]) j (prefixF x n) b=toldA (e.put j hj []) j (prefixF x n) b:=(z8x (c:=e.put j hj []) (c':=e.put j hj [ruleW]) (hjp _) (hjp _) (by rw [kY.chk,kZ.chk]) rfl rfl (by rw [xp,xp]) fun a=>by rw [xp,xp];exact za9 _ x n hx a).symm
 have hYo:(toldA (e.put j hj []) j (prefixF x n) b).1.ok:=by
  cases hh:hiddenA (e.put j hj []) j ((e.put j hj []).ps[j]'(hjp _)) b
  ·rw [z1f (hjp _) kY.chk hq te tl kY.good (by rw [xp]) hh]
   exact (z16 te tl kY.good).aok
  ·rw [z2q (hjp _) hh]
   exact ⟨by decide,(fun s h=>by cases h),by decide⟩
 have rX:=tld [ruleV] okX gx E Ex
 generalize toldA (e.put j hj [ruleV]) j (prefixF x n) b=R0 at rX hX
 rw [hX] at rX
 refine rX.Q ?_
 clear rX
 rintro r E ⟨rfl,rfl⟩
 simp only [e9,t9,hz,↓vcPre,↓z0,↓reduceIte,vcPost,vcStd,Nat.reduceEqDiff,reduceCtorEq,Nat.reduceAdd,Nat.reduceLeDiff,Int.reduceLT,Int.reduceLE,↓u_setN]
 refine AllocQ.i0 fun p13 h13 => ?_
 simp only [e9,hz,↓vcPre,↓z0,↓reduceIte,vcPost,vcStd,Nat.reduceEqDiff,reduceCtorEq,Nat.reduceAdd,Nat.reduceLeDiff,Int.reduceLT,Int.reduceLE,↓u_setN]
 have sF:Store.sub E ((E.set p13 (.box zCells)).set p13 (.box R0.1.c)):=zb (Store.sub_set _ _ _ h13) h13
 generalize (E.set p13 (.box zCells)).set p13 (.box R0.1.c)=F at sF ⊢
 have F11:=sF _ _ E11
 have F12:=sF _ _ E12
 have Fy:=sF _ _ Ey
 have Fz:=sF _ _ Ez
 have sBF:=Store.sub_trans sE sF
 clear E10 E11 E12 Ex Ey Ez sE sF h13
 simp only [F11,c7,t7,sBF _ _ B8,sBF _ _ B5,c13,t13,↓vcPre,↓z0,↓reduceIte,vcPost,vcStd,Nat.reduceEqDiff,reduceCtorEq,Nat.reduceAdd,Nat.reduceLeDiff,Int.reduceLT,Int.reduceLE,↓u_setN]
 have rY:=tld [] rfl gy F Fy
 rw [←hYZ] at hYo
 have rZ':=hYZ
 rw [←hYZ] at rY
 generalize hRR:toldA (e.put j hj [ruleW]) j (prefixF x n) b=R at rY hYo
 refine rY.Q ?_
 clear rY
 rintro r F ⟨rfl,rfl⟩
 simp only [e9,t9,hz,↓vcPre,↓z0,↓reduceIte,vcPost,vcStd,Nat.reduceEqDiff,reduceCtorEq,Nat.reduceAdd,Nat.reduceLeDiff,Int.reduceLT,Int.reduceLE,↓u_setN]
 refine AllocQ.i0 fun p15 h15 => ?_
 simp only [e9,hz,↓vcPre,↓z0,↓reduceIte,vcPost,vcStd,Nat.reduceEqDiff,reduceCtorEq,Nat.reduceAdd,Nat.reduceLeDiff,Int.reduceLT,Int.reduceLE,↓u_setN]
 have sG:Store.sub F ((F.set p15 (.box zCells)).set p15 (.box R.1.c)):=zb (Store.sub_set _ _ _ h15) h15
 have G15:=Store.set_same (F.set p15 (.box zCells)) p15 (.box R.1.c)
 generalize (F.set p15 (.box zCells)).set p15 (.box R.1.c)=G at sG G15 ⊢
 have G12:=sG _ _ F12
 have Gz:=sG _ _ Fz
 have sBG:=Store.sub_trans sBF sG
 clear F11 F12 Fy Fz sBF sG h15
 simp only [G12,c7,t7,sBG _ _ B8,sBG _ _ B5,c13,t13,↓vcPre,↓z0,↓reduceIte,vcPost,vcStd,Nat.reduceEqDiff,reduceCtorEq,Nat.reduceAdd,Nat.reduceLeDiff,Int.reduceLT,Int.reduceLE,↓u_setN]
 have rZ:=tld [ruleW] okZ gz G Gz
 rw [hRR] at rZ
 refine rZ.Q ?_
 clear rZ
 rintro r G ⟨rfl,rfl⟩
 simp only [e9,t9,hz,↓vcPre,↓z0,↓reduceIte,vcPost,vcStd,Nat.reduceEqDiff,reduceCtorEq,Nat.reduceAdd,Nat.reduceLeDiff,Int.reduceLT,Int.reduceLE,↓u_setN]
 refine AllocQ.i0 fun p17 h17 => ?_
 have n15:¬ p15=p17:=fun h=>by subst h;rw [G15] at h17;cases h17
 simp only [e9,hz,↓vcPre,↓z0,↓reduceIte,vcPost,vcStd,Nat.reduceEqDiff,reduceCtorEq,Nat.reduceAdd,Nat.reduceLeDiff,Int.reduceLT,Int.reduceLE,↓u_setN]
 have sH:Store.sub G ((G.set p17 (.box zCells)).set p17 (.box R.1.c)):=zb (Store.sub_set _ _ _ h17) h17
 have H17:=Store.set_same (G.set p17 (.box zCells)) p17 (.box R.1.c)
 have H15:=sH _ _ G15
 rw [show (R.2 != R.2)=false by simp]
 generalize (G.set p17 (.box zCells)).set p17 (.box R.1.c)=H at sH H17 H15 ⊢
 have hk:=c18 R.1 R.1 hYo hYo
 rw [show decide (R.1=R.1)=true by simp] at hk
 simp only [H15,e9,t9,↓vcPre,↓z0,↓reduceIte,vcPost,vcStd,Nat.reduceEqDiff,reduceCtorEq,Nat.reduceAdd,Nat.reduceLeDiff,Int.reduceLT,Int.reduceLE,↓u_setN]
 refine hk.Q ?_
 simp only [↓vcPre,↓z0,↓reduceIte,vcPost,vcStd,Nat.reduceEqDiff,reduceCtorEq,Nat.reduceAdd,Nat.reduceLeDiff,Int.reduceLT,Int.reduceLE,↓u_setN]
 exact hn [(111,.bool false)] _ (Store.sub_trans sBG sH)
end
end Go.Am
namespace Go.Am
open Go.Proofs Go.Sort
theorem xh {S:Store} {a b:Nat} {o:Obj}:(S.set a o) b=none↔¬ b=a∧¬ a=b∧S b=none:=by
 constructor
 ·intro h
  have hn:¬ b=a:=fun e=>by subst e;rw [Store.set_same] at h;cases h
  exact ⟨hn,fun e=>hn e.symm,by rw [Store.set_ne _ _ hn] at h;exact h⟩
 ·rintro ⟨h1,_,h2⟩
  rw [Store.set_ne _ _ h1];exact h2
theorem u5 {S:Store} {p b:Nat} {o:Obj} (h1:S p=some o) (h2:S b=none):¬ p=b:=fun e=>by subst e;rw [h1] at h2;cases h2
structure Hold (P:Prop):Prop where
 h:P
set_option maxHeartbeats 4000000 in
set_option maxRecDepth 20000 in
theorem z58 (c:Cfg) (hc:c.Ok) (x n:Int) (hx:0≤x) (hn:I64 n) (b:PathR) (ho:I64 b.a.org) (hna:0≤b.a.nxt):Pur Try.prog 11 [.agg (c.cV (.sl 4 (c.ps.map Peer.c))),.agg [.int .u32 x,.int .i64 n],.agg b.c] (.bool true):=by
 refine zp Ts29.F11 (by simp [Ts29.F11,Fn.mkW]) fun σ => ?_
 simp only [Ts29.F11,Fn.mkW,Ts29.b11,x9]
 have c7:∀ (c:Cfg) v,(c.cV v).length=7:=fun _ _=>rfl
 have t7:∀ (c:Cfg) v,List.take 7 (c.cV v)=c.cV v:=fun _ _=>rfl
 have f3:∀ (c:Cfg) v,List.take 1 (List.drop 3 (c.cV v))=[v]:=fun _ _=>rfl
 have z7:∀ (c:Cfg) v,splice 0 (c.cV v) [AV.int .u32 0,.int .u32 0,.int .i64 0,.nils,.int .i64 0,.int .i64 0,.int .i64 0]=some (c.cV v):=fun _ _=>rfl
 have c13:∀ b:PathR,b.c.length=13:=fun _=>rfl
 have b9:∀ b:PathR,List.take 9 (List.drop 4 b.c)=b.a.c:=fun _=>rfl
 have w0:∀ (b:PathR) z,splice 0 [.int .i64 z] b.c=some ({ b with peer:=z }:PathR).c:=fun _ _=>rfl
 have w4:∀ (b:PathR) (a:At),splice 4 a.c b.c=some ({ b with a:=a }:PathR).c:=fun _ _=>rfl
 have e9:∀ y:At,y.c.length=9:=fun _=>rfl
 have q2:∀ q:Int×Int,splice 0 [AV.int .u32 q.1,.int .i64 q.2] [AV.int .u32 0,.int .i64 0]=some [AV.int .u32 q.1,.int .i64 q.2]:=fun _=>rfl
 simp only [↓vcPre,↓z0,↓reduceIte,vcPost,vcStd,Nat.reduceEqDiff,reduceCtorEq,Nat.reduceAdd,Nat.reduceLeDiff,Int.reduceLT,Int.reduceLE,↓u_setN]
 refine AllocQ.i0 fun p4 h4 => ?_
 simp only [↓vcPre,↓z0,↓reduceIte,vcPost,vcStd,Nat.reduceEqDiff,reduceCtorEq,Nat.reduceAdd,Nat.reduceLeDiff,Int.reduceLT,Int.reduceLE,↓u_setN]
 refine AllocQ.i1 fun p6 h64 h46 h6 => ?_
 simp only [↓vcPre,↓z0,↓reduceIte,vcPost,vcStd,Nat.reduceEqDiff,reduceCtorEq,Nat.reduceAdd,Nat.reduceLeDiff,Int.reduceLT,Int.reduceLE,↓u_setN]
 refine AllocQ.i2 fun p5 h74 h47 h76 h67 h7 => ?_
 simp only [↓vcPre,↓z0,↓reduceIte,vcPost,vcStd,Nat.reduceEqDiff,reduceCtorEq,Nat.reduceAdd,Nat.reduceLeDiff,Int.reduceLT,Int.reduceLE,↓u_setN]
 have sT:Store.sub σ (((σ.set p4 (.box (c.cV (.sl 4 (c.ps.map Peer.c))))).set p6 (.box [.int .u32 x,.int .i64 n])).set p5 (.box b.c)):=zb (zq h4 h6 h64) h7
 have T5:=Store.set_same ((σ.set p4 (.box (c.cV (.sl 4 (c.ps.map Peer.c))))).set p6 (.box [.int .u32 x,.int .i64 n])) p5 (.box b.c)
 have T6:(((σ.set p4 (.box (c.cV (.sl 4 (c.ps.map Peer.c))))).set p6 (.box [.int .u32 x,.int .i64 n])).set p5 (.box b.c)) p6=some (.box [.int .u32 x,.int .i64 n]):=by rw [Store.set_ne _ _ h67];exact Store.set_same _ _ _
 have T4:(((σ.set p4 (.box (c.cV (.sl 4 (c.ps.map Peer.c))))).set p6 (.box [.int .u32 x,.int .i64 n])).set p5 (.box b.c)) p4=some (.box (c.cV (.sl 4 (c.ps.map Peer.c)))):=by rw [Store.set_ne _ _ h47,Store.set_ne _ _ h46];exact Store.set_same _ _ _
 generalize ((σ.set p4 (.box (c.cV (.sl 4 (c.ps.map Peer.c))))).set p6 (.box [.int .u32 x,.int .i64 n])).set p5 (.box b.c)=T at sT T4 T5 T6 ⊢
 simp only [T4,c7,t7,↓vcPre,↓z0,↓reduceIte,vcPost,vcStd,Nat.reduceEqDiff,reduceCtorEq,Nat.reduceAdd,Nat.reduceLeDiff,Int.reduceLT,Int.reduceLE,↓u_setN]
 refine (zeq (σ:=T) c hc Rd.sl).Q ?_
 rintro r U ⟨g,rfl,sU,hTg,Ug⟩
 have hK:=qk c
 have U6:=sU _ _ T6
 have U5:=sU _ _ T5
 have hσg:=zk sT hTg
 have sσU:=Store.sub_trans sT sU
 clear T4 T5 T6 sT sU hTg
 generalize configK c=e at *
 have hl:=hK.len
 simp only [c7,↓vcPre,↓z0,↓reduceIte,vcPost,vcStd,Nat.reduceEqDiff,reduceCtorEq,Nat.reduceAdd,Nat.reduceLeDiff,Int.reduceLT,Int.reduceLE,↓u_setN]
 refine AllocQ.i0 fun p7 h7' => ?_
 have hσ7:=zk sσU h7'
 have n67:¬ p6=p7:=fun e=>by subst e;rw [U6] at h7';cases h7'
 simp only [c7,z7,n67,↓vcPre,↓z0,↓reduceIte,vcPost,vcStd,Nat.reduceEqDiff,reduceCtorEq,Nat.reduceAdd,Nat.reduceLeDiff,Int.reduceLT,Int.reduceLE,↓u_setN]
 have V7:=Store.set_same (U.set p7 (.box [AV.int .u32 0,.int .u32 0,.int .i64 0,.nils,.int .i64 0,.int .i64 0,.int .i64 0])) p7 (.box (e.cV (.os g 4 0 e.ps.length)))
 have sV:Store.sub U ((U.set p7 (.box [AV.int .u32 0,.int .u32 0,.int .i64 0,.nils,.int .i64 0,.int .i64 0,.int .i64 0])).set p7 (.box (e.cV (.os g 4 0 e.ps.length)))):=zb (Store.sub_set _ _ _ h7') h7'
 generalize (U.set p7 (.box [AV.int .u32 0,.int .u32 0,.int .i64 0,.nils,.int .i64 0,.int .i64 0,.int .i64 0])).set p7 (.box (e.cV (.os g 4 0 e.ps.length)))=V at sV V7 ⊢
 have V6:=sV _ _ U6
 have V5:=sV _ _ U5
 have Vg:=sV _ _ Ug
 have sσV':=Store.sub_trans sσU sV
 have n75':¬ p7=p5:=fun e=>by subst e;rw [U5] at h7';cases h7'
 simp only [U6,↓vcPre,↓z0,↓reduceIte,vcPost,vcStd,Nat.reduceEqDiff,reduceCtorEq,Nat.reduceAdd,Nat.reduceLeDiff,Int.reduceLT,Int.reduceLE,↓u_setN]
 clear U6 U5 Ug sV sσU h7'
 refine (c24 x n hn).Q ?_
 simp only [↓vcPre,↓z0,↓reduceIte,vcPost,vcStd,Nat.reduceEqDiff,reduceCtorEq,Nat.reduceAdd,Nat.reduceLeDiff,Int.reduceLT,Int.reduceLE,↓u_setN]
 refine AllocQ.i0 fun p8 h8 => ?_
 have n58:¬ p5=p8:=fun e=>by subst e;rw [V5] at h8;cases h8
 simp only [q2,V5,n58,c13,w0,b9,↓vcPre,↓z0,↓reduceIte,vcPost,vcStd,Nat.reduceEqDiff,reduceCtorEq,Nat.reduceAdd,Nat.reduceLeDiff,Int.reduceLT,Int.reduceLE,↓u_setN]
 refine (c25 b.a ho 65001).Q ?_
 have te:=uy b.a 65001 hna
 have tl:∀ ls,(tameA b.a 65001).path=[⟨2,ls⟩]→ls.length≤9:=fun ls e1=>by
  obtain ⟨l2,h1,_,h3⟩:=z1e b.a 65001
  rw [e1] at h1
  simp only [List.cons.injEq,Seg.mk.injEq,true_and,and_true] at h1
  subst h1;omega
 simp only [c13,w4,e9,↓vcPre,↓z0,↓reduceIte,vcPost,vcStd,Nat.reduceEqDiff,reduceCtorEq,Nat.reduceAdd,Nat.reduceLeDiff,Int.reduceLT,Int.reduceLE,↓u_setN]
 simp only [Store.set_set]
 have hβa:(⟨-1,b.id,b.addr,b.inr,tameA b.a 65001⟩:PathR).a=tameA b.a 65001:=rfl
 rw [←hβa] at te tl
 generalize (⟨-1,b.id,b.addr,b.inr,tameA b.a 65001⟩:PathR)=β at te tl ⊢
 have hσ8:=zk sσV' h8
 have n87:¬ p8=p5:=fun e=>n58 e.symm
 have n7_8:¬ p7=p8:=fun e=>by subst e;rw [V7] at h8;cases h8
 have ng8:¬ g=p8:=fun e=>by subst e;rw [Vg] at h8;cases h8
 have n75:¬ p7=p5:=n75'
 have ng5:¬ g=p5:=fun e=>by subst e;rw [Vg] at V5;cases V5
 have W5:=Store.set_same (V.set p8 (.box [.int .u32 (prefixF x n).1,.int .i64 (prefixF x n).2])) p5 (.box β.c)
 have W8:((V.set p8 (.box [.int .u32 (prefixF x n).1,.int .i64 (prefixF x n).2])).set p5 (.box β.c)) p8=some (.box [.int .u32 (prefixF x n).1,.int .i64 (prefixF x n).2]):=(Store.set_ne _ _ n87).trans (Store.set_same _ _ _)
 have W7:((V.set p8 (.box [.int .u32 (prefixF x n).1,.int .i64 (prefixF x n).2])).set p5 (.box β.c)) p7=_:=(Store.set_ne _ _ n75).trans ((Store.set_ne _ _ n7_8).trans V7)
 have Wg:((V.set p8 (.box [.int .u32 (prefixF x n).1,.int .i64 (prefixF x n).2])).set p5 (.box β.c)) g=_:=(Store.set_ne _ _ ng5).trans ((Store.set_ne _ _ ng8).trans Vg)
 have sW:Store.sub σ ((V.set p8 (.box [.int .u32 (prefixF x n).1,.int .i64 (prefixF x n).2])).set p5 (.box β.c)):=zb (zb sσV' hσ8) h7
 generalize (V.set p8 (.box [.int .u32 (prefixF x n).1,.int .i64 (prefixF x n).2])).set p5 (.box β.c)=W at W5 W7 W8 Wg sW ⊢
 clear V5 V6 V7 Vg h8
 refine LoopQ.inv (S:=Nat×Store) (fun w=>[(5,.ptr p5 0),(7,.ptr p7 0),(8,.ptr p8 0),(9,.int .i64 (w.1:Int))]) (fun w=>w.2)
  (fun w=>w.1≤e.ps.length∧Store.sub σ w.2∧w.2 p5=some (.box β.c)∧w.2 p7=some (.box (e.cV (.os g 4 0 e.ps.length)))∧w.2 p8=some (.box [.int .u32 (prefixF x n).1,.int .i64 (prefixF x n).2])∧w.2 g=some (.arr 4 (e.ps.map Peer.c)))
  (fun w=>e.ps.length+1 - w.1) (0,W) rfl (Store.sub_refl _) ⟨Nat.zero_le _,sW,W5,W7,W8,Wg⟩ ?_
 clear W5 W7 W8 Wg sW
 rintro ⟨j,s⟩ ⟨hj,hs,s5,s7,s8,sg⟩
 simp only at hj hs s5 s7 s8 sg
 have hlm:(e.ps.map Peer.c).length=e.ps.length:=List.length_map _
 simp only [s7,c7,f3,↓vcPre,↓z0,↓reduceIte,vcPost,vcStd,Nat.reduceEqDiff,reduceCtorEq,Nat.reduceAdd,Nat.reduceLeDiff,Int.reduceLT,Int.reduceLE,↓u_setN]
 refine ⟨fun c1 => ?_,fun c1 => ?_⟩
 ·have hj':j<e.ps.length:=by omega
  have ej:IntKind.i64.wrap ((j:Int)+1)=((j+1:Nat):Int):=by rw [zj (by unfold I64;omega)];omega
  have leaf:Hold (∀ (nn rr:Env→Store→Prop) (xx:Nat→Env→Store→Prop) (T:Store) (p10 p11 p12:Nat),Store.sub s T→s p10=none→s p11=none→s p12=none→T p10=some (.box (e.cV (.os g 4 0 e.ps.length)))→T p11=some (.box (e.cV (.os g 4 0 e.ps.length)))→T p12=some (.box (e.cV (.os g 4 0 e.ps.length)))→¬ p10=p11→¬ p10=p12→¬ p11=p12 →
   (∀ E T',Store.sub s T'→nn ((5,.ptr p5 0)::(7,.ptr p7 0)::(8,.ptr p8 0)::(9,.int .i64 (j:Int))::E) T')→bwp Try.prog Ts29.t11_41 [(5,.ptr p5 0),(7,.ptr p7 0),(8,.ptr p8 0),(9,.int .i64 (j:Int)),(10,.ptr p10 0),(11,.ptr p11 0),(12,.ptr p12 0)] T nn rr xx) :=
   ⟨fun nn rr xx T p10 p11 p12 h1 h2 h3 h4 h5 h6 h7 h8 h9 h10 h11=>z5m hK β j hj' te tl x n hx h1 s5 s7 s8 sg h2 h3 h4 h5 h6 h7 h8 h9 h10 h11⟩
  have next:Hold (∀ T',Store.sub s T'→(j+1≤e.ps.length∧Store.sub σ T'∧T' p5=some (.box β.c)∧T' p7=some (.box (e.cV (.os g 4 0 e.ps.length)))∧T' p8=some (.box [.int .u32 (prefixF x n).1,.int .i64 (prefixF x n).2])∧T' g=some (.arr 4 (e.ps.map Peer.c)))):=⟨fun T' hT=>⟨hj',Store.sub_trans hs hT,hT _ _ s5,hT _ _ s7,hT _ _ s8,hT _ _ sg⟩⟩
  clear f3 c13 b9 w0 w4 e9 q2 hlm hK te tl hc hx ho hna s5 s8 sg hs hn hl
  repeat' (with_reducible refine And.intro ?_ ?_)
  all_goals
   refine AllocQ.i0 fun a ha => ?_
   have hs0:s a=none:=by first | exact ha | (simp only [xh] at ha;simp only [ha])
   have h7a:¬ p7=a:=u5 s7 hs0
   try simp only [xh] at ha
   try simp only [*,↓vcPre,↓z0,↓reduceIte,vcPost,vcStd,Nat.reduceEqDiff,reduceCtorEq,Nat.reduceAdd,Nat.reduceLeDiff,Int.reduceLT,Int.reduceLE,↓u_setN]
   repeat' (with_reducible refine And.intro ?_ ?_)
  all_goals
   refine AllocQ.i0 fun a ha => ?_
   have hs0:s a=none:=by first | exact ha | (simp only [xh] at ha;simp only [ha])
   have h7a:¬ p7=a:=u5 s7 hs0
   try simp only [xh] at ha
   try simp only [*,↓vcPre,↓z0,↓reduceIte,vcPost,vcStd,Nat.reduceEqDiff,reduceCtorEq,Nat.reduceAdd,Nat.reduceLeDiff,Int.reduceLT,Int.reduceLE,↓u_setN]
   repeat' (with_reducible refine And.intro ?_ ?_)
  all_goals
   refine AllocQ.i0 fun a ha => ?_
   have hs0:s a=none:=by first | exact ha | (simp only [xh] at ha;simp only [ha])
   have h7a:¬ p7=a:=u5 s7 hs0
   try simp only [xh] at ha
   try simp only [*,↓vcPre,↓z0,↓reduceIte,vcPost,vcStd,Nat.reduceEqDiff,reduceCtorEq,Nat.reduceAdd,Nat.reduceLeDiff,Int.reduceLT,Int.reduceLE,↓u_setN]
   repeat' (with_reducible refine And.intro ?_ ?_)
  all_goals
   refine leaf.h _ _ _ _ _ _ _ ?_ ?_ ?_ ?_ ?_ ?_ ?_ ?_ ?_ ?_ (fun E T' hT => ?_)
   ·repeat (first | exact Store.sub_refl _ | refine zb ?_ (by first | assumption | simp only [*]))
   ·first | assumption | simp only [*]
   ·first | assumption | simp only [*]
   ·first | assumption | simp only [*]
   ·simp only [*,Store.set_same,not_false_eq_true,ne_eq,Store.set_ne]
   ·simp only [*,Store.set_same,not_false_eq_true,ne_eq,Store.set_ne]
   ·simp only [*,Store.set_same,not_false_eq_true,ne_eq,Store.set_ne]
   ·first | assumption | simp only [*,not_false_eq_true]
   ·first | assumption | simp only [*,not_false_eq_true]
   ·first | assumption | simp only [*,not_false_eq_true]
   ·simp only [ej,↓vcPre,↓z0,↓reduceIte,vcPost,vcStd,Nat.reduceEqDiff,reduceCtorEq,Nat.reduceAdd,Nat.reduceLeDiff,Int.reduceLT,Int.reduceLE,↓u_setN]
    exact NextQ.to (j+1,T') rfl (Store.sub_refl _) (by simp only;omega) (next.h T' hT)
 ·refine c39.Q ?_
  simp only [↓vcPre,↓z0,↓reduceIte,vcPost,vcStd,Nat.reduceEqDiff,reduceCtorEq,Nat.reduceAdd,Nat.reduceLeDiff,Int.reduceLT,Int.reduceLE,↓u_setN]
  exact hs
end Go.Am
namespace Go.Am
open Go.Proofs Go.Sort
theorem zf4 {w:World} {a:List AV} {v:Array Value} (hr:VRel (G0 w) w (.agg a) (.agg v)) (h:TOk Try.prog 2 51 a):∃ q:Int×Int,VRel (G0 w) w (.agg (pfC q)) (.agg v)∧(0≤q.1∧I64 q.2):=by
 obtain ⟨p1,q1,rfl,g1,p2,q2,rfl,g2,rfl⟩:=TOk.struct (ts:=[30,3]) Try.underlying51 rfl h
 obtain ⟨m1,rfl,k1,_⟩:=TOk.int Try.underlying30 g1
 obtain ⟨m2,rfl,l1,l2⟩:=TOk.int Try.underlying3 g2
 exact ⟨(m1,m2),hr,k1,⟨l1,l2⟩⟩
theorem zcr (c:Cfg) (hc:c.Ok) (q:Int×Int) (hq:0≤q.1∧I64 q.2) (b:PathR) (hb:I64 b.peer∧I64 b.a.org∧okNums b.a):Pur Try.prog 11 [.agg (c.cV (.sl 4 (c.ps.map Peer.c))),.agg (pfC q),.agg b.c] (.bool true):=z58 c hc q.1 q.2 hq.1 hq.2 b hb.2.1 hb.2.2.1.1
end Go.Am
