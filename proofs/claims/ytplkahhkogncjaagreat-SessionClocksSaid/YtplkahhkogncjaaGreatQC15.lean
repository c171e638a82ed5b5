/- A part of the proof: a logic for calls over plain values, and the functions that the law reaches, each walked once. -/
import Derived.Test.YtplkahhkogncjaaGreatQC14
set_option linter.unusedVariables false
set_option linter.unusedSimpArgs false
set_option linter.unusedSectionVars false
namespace Go.Am.Tsz
open Go.Proofs Go.Am.B
def b61:BC:=z [k 2 .nils,k 3 (.bool false)] [0] (z [m 9 0,p 10 (.build [.nils,(.int .i64 0),(.bool false)] [(0,1)]) [.t 9],⟨some 11,none,.alloc (.box),[.t 10]⟩,m 4 11] [4] (z [k 5 .nils] [4,5] (.seq (.block 0 (.loop [4,5] (.seq (z [m 12 4,g 13 113 [.t 12],c 14 .gtr 13 0] [4,5,14] (.cond (.t 14) .skip (.exit 0))) (.block 1 (z [m 15 4,g 16 114 [.t 15],m 6 16] [4,5,6] (.seq (z [m 17 6,c 18 .gtr 17 32] [4,5,6,18] (.cond (.t 18) (z [k 2 .nils,k 3 (.bool false)] [2,3] .ret) .skip)) (z [m 19 4,m 20 6,c 21 .add 20 7,c 22 .quo 21 8,g 23 58 [.t 19,.t 22],m 7 23] [4,5,6,7] (.seq (z [m 24 4,u 25 .nilchk 24,f 26 2 25,l 27 1 26] [4,5,6,7,27] (.cond (.t 27) (z [k 2 .nils,k 3 (.bool false)] [2,3] .ret) .skip)) (z [m 28 7,⟨some 29,none,.alloc (.mksl 1 4),[.c (.int .u8 0),.c (.int .u8 0),.c (.int .u8 0),.c (.int .u8 0)]⟩,⟨some 30,none,.loud (.app 1 1),[.t 28,.t 29]⟩,p 31 (.build [.nils,(.int .i64 0),(.bool false)] [(0,1)]) [.t 30],⟨some 32,none,.alloc (.box),[.t 31]⟩,m 8 32] [4,5,6,8] (.ops [m 33 5,m 34 8,g 35 115 [.t 34],m 36 6,g 37 45 [.t 35,.t 36],⟨some 38,none,.alloc (.mksl 2 1),[.t 37]⟩,⟨some 39,none,.loud (.app 2 16),[.t 33,.t 38]⟩,m 5 39] [4,5])))))))))) (z [m 40 5,m 2 40,k 3 (.bool true)] [2,3] .ret))))
def F61:Fn Tryz.prog 61:=Fn.mkX false b61 [.t 2,.t 3] 41 Tryz.f61 _ Tryz.func61 (by decide) rfl Tryz.ntmps61 (by kernel_rfl) (by kernel_rfl)
def t199_41:BC := .ops [m 41 5,m 42 7,m 43 6,g 44 216 [.t 42,.t 43],⟨some 45,none,.alloc (.mksl 2 1),[.t 44]⟩,⟨some 46,none,.loud (.app 2 16),[.t 41,.t 45]⟩,m 5 46] [4,5]
def b199:BC:=z [k 2 .nils,k 3 (.bool false)] [0] (z [m 10 0,g 11 190 [.t 10],m 4 11] [4] (z [k 5 .nils] [4,5] (.seq (.block 0 (.loop [4,5] (.seq (z [m 12 4,g 13 195 [.t 12],c 14 .gtr 13 0] [4,5,14] (.cond (.t 14) .skip (.exit 0))) (.block 1 (z [m 15 4,g 16 191 [.t 15],m 6 16] [4,5,6] (z [k 7 (.int .u32 0)] [4,5,6,7] (.seq (z [m 17 6,c 18 .gtr 17 32] [4,5,6,7,18] (.cond (.t 18) (z [k 2 .nils,k 3 (.bool false)] [2,3] .ret) .skip)) (.seq (z [m 19 4,m 20 6,c 21 .add 20 8,c 22 .sub 21 1,c 23 .quo 22 8,g 24 196 [.t 19,.t 23],u 25 .len 24,j 26 0] [4,5,6,7,24,25,26] (.block 2 (.loop [4,5,6,7,24,25,26] (z [b 27 .lss 26 25] [4,5,6,7,24,25,26,27] (.seq (.cond (.t 27) .skip (.exit 2)) (.seq (.block 3 (z [m 28 26,x 29 1 24 26,l 30 1 29,m 8 28,m 9 30] [4,5,6,7,8,9,24,25,26] (.ops [m 31 7,m 32 9,u 33 (.conv .u32) 32,m 34 8,c 35 .add 34 1,p 36 (.bin .mul) [.c (.int .i64 8),.t 35],p 37 (.bin .sub) [.c (.int .i64 32),.t 36],b 38 .shl 33 37,b 39 .or 31 38,m 7 39] [4,5,6,7,24,25,26]))) (.ops [c 40 .add 26 1,m 26 40] [4,5,6,7,24,25,26]))))))) t199_41)))))))) (.seq (z [m 47 4,g 48 197 [.t 47],u 49 .not 48] [5,49] (.cond (.t 49) (z [k 2 .nils,k 3 (.bool false)] [2,3] .ret) .skip)) (z [m 50 5,m 2 50,k 3 (.bool true)] [2,3] .ret)))))
def F199:Fn Tryz.prog 199:=Fn.mkX false b199 [.t 2,.t 3] 51 Tryz.f199 _ Tryz.func199 (by decide) rfl Tryz.ntmps199 (by kernel_rfl) (by kernel_rfl)
end Go.Am.Tsz
namespace Go.Am
open Go.Proofs Go.Sort
def outN (x:Option (List (Int×Int))):AV:=match x with
 | some l => .tup [.sl 2 (l.map pxC),.bool true]
 | none => .tup [.sl 2 [],.bool false]
theorem z1m {n:Int} (h0:0≤n) (h:n≤32):szN n≤4:=by unfold szN;omega
set_option maxHeartbeats 1000000 in
theorem zdq {σ:Store} {B:List Int} {v:AV} (hr:Rd 1 σ (B.map cB) v) (hB:B.length≤1000000) (hu:U8s B):ACalls Tryz.prog 199 [v] σ (fun r s=>s=σ∧r=outN (dN B)):=by
 refine ze Tsz.F199 (by simp [Tsz.F199,Fn.mkX]) ?_
 simp only [Tsz.F199,Fn.mkX,Tsz.b199]
 simp only [↓vcPre,↓z8,↓reduceIte,vcPost,vcStd,Nat.reduceEqDiff,reduceCtorEq,Nat.reduceAdd,Nat.reduceLeDiff,Int.reduceLT,Int.reduceLE,↓u_setN]
 refine (z22 hr (by omega)).Q ?_
 rintro r s ⟨id,rfl,h⟩
 simp only [↓vcPre,↓z8,↓reduceIte,vcPost,vcStd,Nat.reduceEqDiff,reduceCtorEq,Nat.reduceAdd,Nat.reduceLeDiff,Int.reduceLT,Int.reduceLE,↓u_setN]
 refine LoopQ.inv (S:=List Int×Bool×List (Int×Int)×AV×Store) (fun q=>[(4,.ptr id 0),(5,q.2.2.2.1)]) (fun q=>q.2.2.2.2)
  (fun q=>RP σ id q.1 q.2.1 q.2.2.2.2∧Own 2 σ (q.2.2.1.map pxC) q.2.2.2.1 q.2.2.2.2∧q.2.2.1.length+q.1.length≤B.length+1∧U8s q.1∧q.1.length≤B.length∧((q.2.1=false∧q.2.2.1.length+q.1.length≤B.length∧dN B=(dN q.1).map (q.2.2.1 ++ ·))∨(q.2.1=true∧dN B=none)))
  (fun q=>if q.2.1 then 0 else q.1.length+1) (B,false,[],.nils,s) rfl (Store.sub_refl _) ⟨h,.nil,by simp,hu,Nat.le_refl _,.inl ⟨rfl,by simp,by simp⟩⟩ ?_
 rintro ⟨R,bad,l,av,s⟩ ⟨h,ho,hl,hR,hRM,hj⟩
 simp only at h ho hl hR hRM hj
 simp only [↓vcPre,↓z8,↓reduceIte,vcPost,vcStd,Nat.reduceEqDiff,reduceCtorEq,Nat.reduceAdd,Nat.reduceLeDiff,Int.reduceLT,Int.reduceLE,↓u_setN]
 refine (z12 h).Q ?_
 rintro r s' ⟨rfl,rfl⟩
 simp only [↓vcPre,↓z8,↓reduceIte,vcPost,vcStd,Nat.reduceEqDiff,reduceCtorEq,Nat.reduceAdd,Nat.reduceLeDiff,Int.reduceLT,Int.reduceLE,↓u_setN]
 refine ⟨fun c1 => ?_,fun c1 => ?_⟩
 ·obtain ⟨rfl,hlen,hd⟩:bad=false∧l.length+R.length≤B.length∧dN B=(dN R).map (l ++ ·):=by
   rcases hj with hj | ⟨hb,_⟩
   ·exact hj
   ·rw [hb] at c1;simp at c1
  match R,hR,h,hRM,hlen,hd,hl with
  | [],_,_,_,_,_,_=>simp at c1
  | n::R,hR,h,hRM,hlen,hd,hl =>
  have hn:=hR n (by simp)
  have hRu:U8s R:=fun x hx=>hR x (by simp [hx])
  obtain ⟨hb1,hb2⟩:=h.base
  refine (z05 hb1 (by simp at hRM ⊢;omega) hR).Q ?_
  rintro r s2 ⟨rfl,h2⟩
  have hov:=(ho.delBox h.2.2).mono h2.2.1
  rw [wm] at h2 ⊢
  simp only at h2
  simp only [↓vcPre,↓z8,↓reduceIte,vcPost,vcStd,Nat.reduceEqDiff,reduceCtorEq,Nat.reduceAdd,Nat.reduceLeDiff,Int.reduceLT,Int.reduceLE,↓u_setN]
  refine ⟨fun c2 => ?_,fun c2 => ?_⟩
  ·refine EndQ.twoNil _ 2 σ rfl (Store.sub_trans hb2 h2.2.1) ⟨rfl,?_⟩
   rw [hd,z1u,if_pos c2];rfl
  ·have w1:IntKind.i64.wrap (n+8)=n+8:=zd (by unfold I64;omega)
   have w2:IntKind.i64.wrap (n+8 - 1)=n+8 - 1:=zd (by unfold I64;omega)
   have w3:IntKind.i64.wrap ((n+8 - 1).tdiv 8)=(szN n:Int):=by
    rw [Int.tdiv_eq_ediv_of_nonneg (by omega),zd (by unfold I64;omega)]
    unfold szN;omega
   simp only [w1,w2,w3,↓vcPre,↓z8,↓reduceIte,vcPost,vcStd,Nat.reduceEqDiff,reduceCtorEq,Nat.reduceAdd,Nat.reduceLeDiff,Int.reduceLT,Int.reduceLE,↓u_setN]
   refine ⟨by decide,?_⟩
   obtain ⟨hb3,hb4⟩:=h2.base
   refine (z23 hb3 (by simp at hRM;omega) (szN n:Int)).Q ?_
   rintro r s3 ⟨rfl,h3⟩
   have hov3:=(hov.delBox h2.2.2).mono h3.2.1
   have hsz:=z1m hn.1 (by omega:n≤32)
   have hraw:(rawM (szN n:Int) R false).1.length≤4:=by have:=z02 (k:=szN n) (R:=R) (bad:=false);omega
   have hrau:=(vo (n:=(szN n:Int)) (bad:=false) hRu).1
   have hσ3:Store.sub σ s3:=Store.sub_trans hb2 (Store.sub_trans hb4 h3.2.1)
   obtain ⟨W,hW⟩:∃ W,W=(rawM (szN n:Int) R false).1:=⟨_,rfl⟩
   rw [←hW] at hraw hrau ⊢
   simp only [↓vcPre,↓z8,↓reduceIte,vcPost,vcStd,Nat.reduceEqDiff,reduceCtorEq,Nat.reduceAdd,Nat.reduceLeDiff,Int.reduceLT,Int.reduceLE,↓u_setN]
   have wl:IntKind.i64.wrap ((W.length:Nat):Int)=(W.length:Int):=zd (by unfold I64;omega)
   refine LoopQ.inv (S:=Nat) (fun k=>[(4,.ptr id 0),(5,av),(6,.int .i64 n),(7,.int .u32 (val4 (W.take k))),(24,.sl 1 (W.map cB)),(25,.int .i64 (W.length:Int)),(26,.int .i64 (k:Int))]) (fun _=>s3) (fun k=>k≤W.length) (fun k=>W.length+1 - k) 0 rfl (Store.sub_refl _) (by omega) ?_
   intro k hk
   simp only [↓vcPre,↓z8,↓reduceIte,vcPost,vcStd,Nat.reduceEqDiff,reduceCtorEq,Nat.reduceAdd,Nat.reduceLeDiff,Int.reduceLT,Int.reduceLE,↓u_setN]
   refine ⟨fun c3 => ?_,fun c3 => ?_⟩
   ·have hx:=hrau _ (List.getElem_mem c3)
    have ek:IntKind.i64.wrap ((k:Int)+1)=((k+1:Nat):Int):=by rw [zd (by unfold I64;omega)];omega
    have e8:IntKind.i64.wrap (8*((k+1:Nat):Int))=8*((k:Int)+1):=by rw [zd (by unfold I64;omega)];omega
    have e32:IntKind.i64.wrap (32 - 8*((k:Int)+1))=32 - 8*((k:Int)+1):=zd (by unfold I64;omega)
    have ex:IntKind.u32.wrap (W[k])=W[k]:=by rw [za1];omega
    simp only [cB,ek,e8,e32,ex,z8l hrau c3 (by omega),↓vcPre,↓z8,↓reduceIte,vcPost,vcStd,Nat.reduceEqDiff,reduceCtorEq,Nat.reduceAdd,Nat.reduceLeDiff,Int.reduceLT,Int.reduceLE,↓u_setN]
    exact ⟨c3,by omega,NextQ.to (k+1) rfl (Store.sub_refl _) (by omega) (by omega)⟩
   ·have hkE:k=W.length:=by omega
    subst hkE
    rw [List.take_length]
    simp only [Tsz.t199_41]
    simp only [↓vcPre,↓z8,↓reduceIte,vcPost,vcStd,Nat.reduceEqDiff,reduceCtorEq,Nat.reduceAdd,Nat.reduceLeDiff,Int.reduceLT,Int.reduceLE,↓u_setN]
    refine (zhy (val4 W) n (by unfold I64;omega)).Q ?_
    simp only [↓vcPre,↓z8,↓reduceIte,vcPost,vcStd,Nat.reduceEqDiff,reduceCtorEq,Nat.reduceAdd,Nat.reduceLeDiff,Int.reduceLT,Int.reduceLE,↓u_setN]
    refine AllocQ.i0 fun b hb => ?_
    simp only [↓vcPre,↓z8,↓reduceIte,vcPost,vcStd,Nat.reduceEqDiff,reduceCtorEq,Nat.reduceAdd,Nat.reduceLeDiff,Int.reduceLT,Int.reduceLE,↓u_setN]
    have hsb:=Store.sub_set s3 b (.arr 2 [[.int .u32 (ofF (val4 W) n).1,.int .i64 (ofF (val4 W) n).2]]) hb
    have h4:=((h3.weak hb4).weak hb2).mono hsb
    refine Own.appK (τ:=σ) h4.2.1 (hov3.mono hsb) (zq (Store.set_same _ _ _) rfl) (by simp at hl ⊢;omega) fun v' s4 hs4 ho4 hk4 => ?_
    have h5:RP σ id (rawM (szN n:Int) R false).2.1 (rawM (szN n:Int) R false).2.2 s4:=⟨h4.1,hs4,hk4 _ _ h4.2.2 (fun M e=>by cases e)⟩
    have ho5:Own 2 σ ((l++[ofF (val4 W) n]).map pxC) v' s4:=by simpa [pxC] using ho4
    by_cases hs:R.length<szN n
    ·have e:rawM (szN n:Int) R false=([],R,true):=by
      unfold rawM;rw [if_pos (by right;omega)]
     rw [e] at h5
     refine NextQ.to (R,true,l++[ofF (val4 W) n],v',s4) rfl (Store.sub_refl _) (by simp) ⟨h5,ho5,by simp at hl ⊢;omega,hRu,by simp at hRM ⊢;omega,.inr ⟨rfl,?_⟩⟩
     rw [hd,z1u,if_neg c2,if_pos hs];rfl
    ·have e:=xt (n:=(szN n:Int)) (R:=R) (by omega) (by omega)
     rw [Int.toNat_natCast] at e
     rw [e] at h5 hW
     simp only at hW
     refine NextQ.to (R.drop (szN n),false,l++[ofF (val4 W) n],v',s4) rfl (Store.sub_refl _) (by simp;omega) ⟨h5,ho5,by simp at hl ⊢;omega,hRu.drop _,by simp at hRM ⊢;omega,.inl ⟨rfl,by simp at hlen ⊢;omega,?_⟩⟩
     rw [hd,z1u,if_neg c2,if_neg hs,←hW,Option.map_map]
     congr 1
     funext x
     simp
 ·refine (z69 h).Q ?_
  rintro r s2 ⟨rfl,rfl⟩
  rcases hj with ⟨rfl,_,hd⟩ | ⟨rfl,hd⟩
  ·simp only [↓vcPre,↓z8,↓reduceIte,vcPost,vcStd,Nat.reduceEqDiff,reduceCtorEq,Nat.reduceAdd,Nat.reduceLeDiff,Int.reduceLT,Int.reduceLE,↓u_setN]
   have hR0:R=[]:=by
    cases R with
    | nil=>rfl
    | cons x R=>simp at c1
   rw [hR0,zdc,Option.map_some,List.append_nil] at hd
   exact EndQ.ownTwo rfl ho h.2.1 ⟨rfl,by rw [hd];rfl⟩
  ·simp only [↓vcPre,↓z8,↓reduceIte,vcPost,vcStd,Nat.reduceEqDiff,reduceCtorEq,Nat.reduceAdd,Nat.reduceLeDiff,Int.reduceLT,Int.reduceLE,↓u_setN]
   exact EndQ.twoNil _ 2 σ rfl h.2.1 ⟨rfl,by rw [hd];rfl⟩
theorem RZ.at {σ τ s:Store} {v:AV} {B:List Int} {id:Nat} {R:List Int} {lack:Bool} (h:RZ σ v B τ id R lack s):∃ n:Nat,s id=some (.box [v,.int .i64 (n:Int),.bool lack]):=by
 obtain ⟨n,_,_,_,h4,_⟩:=h;exact ⟨n,h4⟩
end Go.Am
namespace Go.Am.Ts1
open Go.Proofs Go.Am.B
def b96:BC:=z [k 2 .nils,k 3 (.bool false)] [0] (z [k 4 .nils] [0,4] (.seq (z [j 5 0] [0,4,5] (.block 0 (.loop [0,4,5] (.seq (z [m 6 5,m 7 0,u 8 .len 7,b 9 .lss 6 8] [0,4,5,9] (.cond (.t 9) .skip (.exit 0))) (.seq (.block 1 (.seq (z [m 12 0,m 13 5,x 14 2 12 13,⟨some 15,none,.load (.ld 2 true),[.t 14]⟩,g 16 80 [.t 15],u 17 .not 16] [0,4,5,17] (.cond (.t 17) (z [k 2 .nils,k 3 (.bool false)] [2,3] .ret) .skip)) (z [m 18 4] [0,5,18] (z [m 19 0] [0,5,18,19] (z [m 20 5] [0,5,18,19,20] (z [x 21 2 19 20] [0,5,18,21] (z [f 22 1 21] [0,5,18,22] (z [m 27 0] [0,5,18,22,27] (z [m 28 5] [0,5,18,22,27,28] (z [x 29 2 27 28] [0,5,18,22,29] (z [f 30 0 29] [0,5,18,22,30] (z [m 33 0] [0,5,18,22,30,33] (z [m 34 5] [0,5,18,22,30,33,34] (z [x 35 2 33 34] [0,5,18,22,30,35] (z [l 23 1 22] [0,5,18,23,30,35] (z [u 24 (.conv .u8) 23] [0,5,18,24,30,35] (.both (z [⟨some 25,none,.alloc (.mksl 1 1),[.t 24]⟩] [0,5,18,25,30,35] (.both (z [⟨some 26,none,.loud (.app 1 1),[.t 18,.t 25]⟩] [0,5,26,30,35] (z [l 31 1 30] [0,5,26,31,35] (z [⟨some 36,none,.load (.ld 2 true),[.t 35]⟩] [0,5,26,31,36] (z [⟨some 32,none,.qcall 94,[.c .nils,.t 31]⟩] [0,5,26,32,36] (z [⟨some 37,none,.qcall 157,[.t 36]⟩] [0,5,26,32,37] (z [c 38 .sub 37 1] [0,5,26,32,38] (z [p 39 (.slice 1 false true) [.t 32,.t 38]] [0,5,26,39] (z [⟨some 40,none,.loud (.app 1 1),[.t 26,.t 39]⟩] [0,5,40] (z [m 4 40] [0,4,5] (.ops [] [0,4,5])))))))))) (.both (z [l 31 1 30] [0,5,18,25,31,35] (.both (z [⟨some 26,none,.loud (.app 1 1),[.t 18,.t 25]⟩] [0,5,26,31,35] (z [⟨some 36,none,.load (.ld 2 true),[.t 35]⟩] [0,5,26,31,36] (z [⟨some 32,none,.qcall 94,[.c .nils,.t 31]⟩] [0,5,26,32,36] (z [⟨some 37,none,.qcall 157,[.t 36]⟩] [0,5,26,32,37] (z [c 38 .sub 37 1] [0,5,26,32,38] (z [p 39 (.slice 1 false true) [.t 32,.t 38]] [0,5,26,39] (z [⟨some 40,none,.loud (.app 1 1),[.t 26,.t 39]⟩] [0,5,40] (z [m 4 40] [0,4,5] (.ops [] [0,4,5]))))))))) (.both (z [⟨some 36,none,.load (.ld 2 true),[.t 35]⟩] [0,5,18,25,31,36] (z [⟨some 26,none,.loud (.app 1 1),[.t 18,.t 25]⟩] [0,5,26,31,36] (z [⟨some 32,none,.qcall 94,[.c .nils,.t 31]⟩] [0,5,26,32,36] (z [⟨some 37,none,.qcall 157,[.t 36]⟩] [0,5,26,32,37] (z [c 38 .sub 37 1] [0,5,26,32,38] (z [p 39 (.slice 1 false true) [.t 32,.t 38]] [0,5,26,39] (z [⟨some 40,none,.loud (.app 1 1),[.t 26,.t 39]⟩] [0,5,40] (z [m 4 40] [0,4,5] (.ops [] [0,4,5]))))))))) (.top)))) (.both (z [⟨some 36,none,.load (.ld 2 true),[.t 35]⟩] [0,5,18,25,30,36] (.both (z [⟨some 26,none,.loud (.app 1 1),[.t 18,.t 25]⟩] [0,5,26,30,36] (z [l 31 1 30] [0,5,26,31,36] (z [⟨some 32,none,.qcall 94,[.c .nils,.t 31]⟩] [0,5,26,32,36] (z [⟨some 37,none,.qcall 157,[.t 36]⟩] [0,5,26,32,37] (z [c 38 .sub 37 1] [0,5,26,32,38] (z [p 39 (.slice 1 false true) [.t 32,.t 38]] [0,5,26,39] (z [⟨some 40,none,.loud (.app 1 1),[.t 26,.t 39]⟩] [0,5,40] (z [m 4 40] [0,4,5] (.ops [] [0,4,5]))))))))) (.both (z [l 31 1 30] [0,5,18,25,31,36] (z [⟨some 26,none,.loud (.app 1 1),[.t 18,.t 25]⟩] [0,5,26,31,36] (z [⟨some 32,none,.qcall 94,[.c .nils,.t 31]⟩] [0,5,26,32,36] (z [⟨some 37,none,.qcall 157,[.t 36]⟩] [0,5,26,32,37] (z [c 38 .sub 37 1] [0,5,26,32,38] (z [p 39 (.slice 1 false true) [.t 32,.t 38]] [0,5,26,39] (z [⟨some 40,none,.loud (.app 1 1),[.t 26,.t 39]⟩] [0,5,40] (z [m 4 40] [0,4,5] (.ops [] [0,4,5]))))))))) (.top)))) (.top))))) (.both (z [l 31 1 30] [0,5,18,24,31,35] (.both (z [⟨some 25,none,.alloc (.mksl 1 1),[.t 24]⟩] [0,5,18,25,31,35] (.both (z [⟨some 26,none,.loud (.app 1 1),[.t 18,.t 25]⟩] [0,5,26,31,35] (z [⟨some 36,none,.load (.ld 2 true),[.t 35]⟩] [0,5,26,31,36] (z [⟨some 32,none,.qcall 94,[.c .nils,.t 31]⟩] [0,5,26,32,36] (z [⟨some 37,none,.qcall 157,[.t 36]⟩] [0,5,26,32,37] (z [c 38 .sub 37 1] [0,5,26,32,38] (z [p 39 (.slice 1 false true) [.t 32,.t 38]] [0,5,26,39] (z [⟨some 40,none,.loud (.app 1 1),[.t 26,.t 39]⟩] [0,5,40] (z [m 4 40] [0,4,5] (.ops [] [0,4,5]))))))))) (.both (z [⟨some 36,none,.load (.ld 2 true),[.t 35]⟩] [0,5,18,25,31,36] (z [⟨some 26,none,.loud (.app 1 1),[.t 18,.t 25]⟩] [0,5,26,31,36] (z [⟨some 32,none,.qcall 94,[.c .nils,.t 31]⟩] [0,5,26,32,36] (z [⟨some 37,none,.qcall 157,[.t 36]⟩] [0,5,26,32,37] (z [c 38 .sub 37 1] [0,5,26,32,38] (z [p 39 (.slice 1 false true) [.t 32,.t 38]] [0,5,26,39] (z [⟨some 40,none,.loud (.app 1 1),[.t 26,.t 39]⟩] [0,5,40] (z [m 4 40] [0,4,5] (.ops [] [0,4,5]))))))))) (.top)))) (.both (z [⟨some 36,none,.load (.ld 2 true),[.t 35]⟩] [0,5,18,24,31,36] (z [⟨some 25,none,.alloc (.mksl 1 1),[.t 24]⟩] [0,5,18,25,31,36] (z [⟨some 26,none,.loud (.app 1 1),[.t 18,.t 25]⟩] [0,5,26,31,36] (z [⟨some 32,none,.qcall 94,[.c .nils,.t 31]⟩] [0,5,26,32,36] (z [⟨some 37,none,.qcall 157,[.t 36]⟩] [0,5,26,32,37] (z [c 38 .sub 37 1] [0,5,26,32,38] (z [p 39 (.slice 1 false true) [.t 32,.t 38]] [0,5,26,39] (z [⟨some 40,none,.loud (.app 1 1),[.t 26,.t 39]⟩] [0,5,40] (z [m 4 40] [0,4,5] (.ops [] [0,4,5])))))))))) (.top)))) (.both (z [⟨some 36,none,.load (.ld 2 true),[.t 35]⟩] [0,5,18,24,30,36] (.both (z [⟨some 25,none,.alloc (.mksl 1 1),[.t 24]⟩] [0,5,18,25,30,36] (.both (z [⟨some 26,none,.loud (.app 1 1),[.t 18,.t 25]⟩] [0,5,26,30,36] (z [l 31 1 30] [0,5,26,31,36] (z [⟨some 32,none,.qcall 94,[.c .nils,.t 31]⟩] [0,5,26,32,36] (z [⟨some 37,none,.qcall 157,[.t 36]⟩] [0,5,26,32,37] (z [c 38 .sub 37 1] [0,5,26,32,38] (z [p 39 (.slice 1 false true) [.t 32,.t 38]] [0,5,26,39] (z [⟨some 40,none,.loud (.app 1 1),[.t 26,.t 39]⟩] [0,5,40] (z [m 4 40] [0,4,5] (.ops [] [0,4,5]))))))))) (.both (z [l 31 1 30] [0,5,18,25,31,36] (z [⟨some 26,none,.loud (.app 1 1),[.t 18,.t 25]⟩] [0,5,26,31,36] (z [⟨some 32,none,.qcall 94,[.c .nils,.t 31]⟩] [0,5,26,32,36] (z [⟨some 37,none,.qcall 157,[.t 36]⟩] [0,5,26,32,37] (z [c 38 .sub 37 1] [0,5,26,32,38] (z [p 39 (.slice 1 false true) [.t 32,.t 38]] [0,5,26,39] (z [⟨some 40,none,.loud (.app 1 1),[.t 26,.t 39]⟩] [0,5,40] (z [m 4 40] [0,4,5] (.ops [] [0,4,5]))))))))) (.top)))) (.both (z [l 31 1 30] [0,5,18,24,31,36] (z [⟨some 25,none,.alloc (.mksl 1 1),[.t 24]⟩] [0,5,18,25,31,36] (z [⟨some 26,none,.loud (.app 1 1),[.t 18,.t 25]⟩] [0,5,26,31,36] (z [⟨some 32,none,.qcall 94,[.c .nils,.t 31]⟩] [0,5,26,32,36] (z [⟨some 37,none,.qcall 157,[.t 36]⟩] [0,5,26,32,37] (z [c 38 .sub 37 1] [0,5,26,32,38] (z [p 39 (.slice 1 false true) [.t 32,.t 38]] [0,5,26,39] (z [⟨some 40,none,.loud (.app 1 1),[.t 26,.t 39]⟩] [0,5,40] (z [m 4 40] [0,4,5] (.ops [] [0,4,5])))))))))) (.top)))) (.top)))))))))))))))))))) (.ops [m 10 5,c 11 .add 10 1,m 5 11] [0,4,5])))))) (z [m 41 4,m 2 41,k 3 (.bool true)] [2,3] .ret)))
def F96:Fn Tryz.prog 96:=Fn.mkX false b96 [.t 2,.t 3] 42 Tryz.f96 _ Tryz.func96 (by decide) rfl Tryz.ntmps96 (by kernel_rfl) (by kernel_rfl)
end Go.Am.Ts1
namespace Go.Am
open Go.Proofs Go.Sort
def pxB (p:Int×Int):List Int:=p.2::(b4 p.1).take (szN p.2)
def encN (l:List (Int×Int)):List Int:=l.flatMap pxB
def Rights (l:List (Int×Int)):Prop:=∀ p ∈ l,rightF p.1 p.2=true
theorem ve {a n:Int} (h:rightF a n=true):0≤n∧n≤32:=by
 unfold rightF at h
 simp only [Bool.and_eq_true,decide_eq_true_eq] at h
 exact h.1
theorem zht (p:Int×Int) (h:rightF p.1 p.2=true):Pur Tryz.prog 157 [.agg (pxC p)] (.int .i64 (1+(szN p.2:Int))):=by
 refine zw Tst.F157 (by simp [Tst.F157,Fn.mkX]) fun σ => ?_
 simp only [Tst.F157,Fn.mkX,Tst.b157,pxC]
 simp only [↓vcPre,↓z8,↓reduceIte,vcPost,vcStd,Nat.reduceEqDiff,reduceCtorEq,Nat.reduceAdd,Nat.reduceLeDiff,Int.reduceLT,Int.reduceLE,↓u_setN]
 refine AllocQ.i0 fun i hi => ?_
 simp only [↓vcPre,↓z8,↓reduceIte,vcPost,vcStd,Nat.reduceEqDiff,reduceCtorEq,Nat.reduceAdd,Nat.reduceLeDiff,Int.reduceLT,Int.reduceLE,↓u_setN]
 refine (c80 p.1 p.2).Q ?_
 rw [h]
 obtain ⟨g1,g2⟩:=ve h
 have w1:IntKind.i64.wrap (p.2+7)=p.2+7:=zd (by unfold I64;omega)
 have w3:IntKind.i64.wrap ((p.2+7).tdiv 8)=(szN p.2:Int):=by
  rw [Int.tdiv_eq_ediv_of_nonneg (by omega),zd (by unfold I64;omega)]
  unfold szN;omega
 have:=z1m g1 g2
 have w4:IntKind.i64.wrap (1+(szN p.2:Int))=1+(szN p.2:Int):=zd (by unfold I64;omega)
 simp only [w1,w3,w4,↓vcPre,↓z8,↓reduceIte,vcPost,vcStd,Nat.reduceEqDiff,reduceCtorEq,Nat.reduceAdd,Nat.reduceLeDiff,Int.reduceLT,Int.reduceLE,↓u_setN]
 exact ⟨by decide,Store.sub_set _ _ _ hi⟩
theorem z0v (l:List (Int×Int)) (h:Rights l):(encN l).length≤5*l.length:=by
 induction l with
 | nil=>simp [encN]
 | cons p l ih =>
   have h1:=ih fun q hq=>h q (by simp [hq])
   have h2:=ve (h p (by simp))
   have h3:=z1m h2.1 h2.2
   simp only [encN,List.flatMap_cons,List.length_append,List.length_cons,pxB,List.length_take] at *
   omega
set_option maxHeartbeats 1000000 in
theorem s96 (l:List (Int×Int)) (hl:l.length≤100000) (hr:Rights l) (σ:Store):ACalls Tryz.prog 96 [.sl 2 (l.map pxC)] σ (fun r s=>Store.sub σ s∧∃ v,r = .tup [v,.bool true]∧Own 1 σ ((encN l).map cB) v s):=by
 refine ze Ts1.F96 (by simp [Ts1.F96,Fn.mkX]) ?_
 simp only [Ts1.F96,Fn.mkX,Ts1.b96]
 simp only [↓vcPre,↓z8,↓reduceIte,vcPost,vcStd,Nat.reduceEqDiff,reduceCtorEq,Nat.reduceAdd,Nat.reduceLeDiff,Int.reduceLT,Int.reduceLE,↓u_setN]
 refine LoopQ.inv (S:=Nat×AV×Store) (fun w=>[(0,.sl 2 (l.map pxC)),(4,w.2.1),(5,.int .i64 (w.1:Int))]) (fun w=>w.2.2)
  (fun w=>w.1≤l.length∧Own 1 σ ((encN (l.take w.1)).map cB) w.2.1 w.2.2∧Store.sub σ w.2.2) (fun w=>l.length+1 - w.1) (0,.nils,σ) rfl (Store.sub_refl _) ⟨by omega,Own.nil,Store.sub_refl _⟩ ?_
 rintro ⟨k,v,s⟩ ⟨i1,i2,i3⟩
 simp only at i1 i2 i3
 simp only [↓vcPre,↓z8,↓reduceIte,vcPost,vcStd,Nat.reduceEqDiff,reduceCtorEq,Nat.reduceAdd,Nat.reduceLeDiff,Int.reduceLT,Int.reduceLE,↓u_setN]
 refine ⟨fun c1 => ?_,fun c1 => ?_⟩
 ·have hp:=hr _ (List.getElem_mem c1)
  obtain ⟨g1,g2⟩:=ve hp
  simp only [pxC,↓vcPre,↓z8,↓reduceIte,vcPost,vcStd,Nat.reduceEqDiff,reduceCtorEq,Nat.reduceAdd,Nat.reduceLeDiff,Int.reduceLT,Int.reduceLE,↓u_setN]
  refine ⟨c1,(c80 _ _).Q ?_⟩
  rw [hp]
  have w8:IntKind.u8.wrap l[k].2=l[k].2:=by simp [IntKind.wrap,IntKind.bits,IntKind.signed];omega
  simp only [pxC,w8,↓vcPre,↓z8,↓reduceIte,vcPost,vcStd,Nat.reduceEqDiff,reduceCtorEq,Nat.reduceAdd,Nat.reduceLeDiff,Int.reduceLT,Int.reduceLE,↓u_setN]
  have hlen:=z0v (l.take k) (fun p hp=>hr p (List.mem_of_mem_take hp))
  have hlk:(l.take k).length≤100000:=by rw [List.length_take];omega
  have hsz:=z1m g1 g2
  have ws:IntKind.i64.wrap (1+(szN l[k].2:Int) - 1)=(szN l[k].2:Int):=by rw [zd (by unfold I64;omega)];omega
  have ek:IntKind.i64.wrap ((k:Int)+1)=((k+1:Nat):Int):=by rw [zd (by unfold I64;omega)];omega
  have hcs:Pur Tryz.prog 157 [.agg [.int .u32 l[k].1,.int .i64 l[k].2]] (.int .i64 (1+(szN l[k].2:Int))):=zht l[k] hp
  refine ⟨c1,c1,c1,?_⟩
  and_intros
  all_goals
   refine AllocQ.i0 fun q hq => ?_
   simp only [pxC,↓vcPre,↓z8,↓reduceIte,vcPost,vcStd,Nat.reduceEqDiff,reduceCtorEq,Nat.reduceAdd,Nat.reduceLeDiff,Int.reduceLT,Int.reduceLE,↓u_setN]
   have hsq:=Store.sub_set s q (.arr 1 [[.int .u8 l[k].2]]) hq
   and_intros
   all_goals
    refine Own.appM (bytes:=1) (τ:=σ) (Store.sub_trans i3 hsq) (i2.mono hsq) (zq (Store.set_same _ _ _) rfl) (by simp;omega) fun v1 s1 hs1 ho1 => ?_
    refine (s94 (L:=[]) (v := .nils) (Rd.nils) (by simp) l[k].1).Q ?_
    rintro r s2 ⟨hs2,ho2⟩
    simp only [pxC,↓vcPre,↓z8,↓reduceIte,vcPost,vcStd,Nat.reduceEqDiff,reduceCtorEq,Nat.reduceAdd,Nat.reduceLeDiff,Int.reduceLT,Int.reduceLE,↓u_setN]
    refine ⟨hs2,hcs.Q ?_⟩
    have h2r:Rd 1 s2 ((b4 l[k].1).map cB) r:=Rd.own (by simpa using ho2)
    obtain ⟨x,hx,hxr⟩:=h2r.slice (lo:=0) (hi:=szN l[k].2) (by omega) (by simp [b4];omega)
    have hx':pSlice 1 r 0 (some (szN l[k].2:Int))=some x:=hx
    simp only [ws,hx',pxC,↓vcPre,↓z8,↓reduceIte,vcPost,vcStd,Nat.reduceEqDiff,reduceCtorEq,Nat.reduceAdd,Nat.reduceLeDiff,Int.reduceLT,Int.reduceLE,↓u_setN]
    refine Own.appM (bytes:=1) (τ:=σ) (Store.sub_trans hs1 hs2) (ho1.mono hs2) (hxr.1 _ (Store.sub_refl _)) (by simp;omega) fun v2 s3 hs3 ho3 => ?_
    rw [ek]
    refine NextQ.to (k+1,v2,s3) rfl (Store.sub_refl _) (by simp only;omega) ⟨by simp only;omega,?_,hs3⟩
    have e:(encN (l.take (k+1)))=encN (l.take k)++pxB l[k]:=by
     unfold encN;rw [List.take_succ_eq_append_getElem c1,List.flatMap_append];simp
    simp only [e,List.map_append]
    simpa [pxB,cB,List.map_take] using ho3
 ·have hk:k=l.length:=by omega
  subst hk
  rw [List.take_length] at i2
  exact EndQ.to _ _ rfl (Store.sub_refl _) ⟨i3,v,rfl,i2⟩
end Go.Am
namespace Go.Am.Ts2
open Go.Proofs Go.Am.B
def t161_84:BC := .seq (z [f 84 1 10] [4,5,10,12,84] (.both (z [⟨some 83,none,.load (.ld 9 true),[.t 12]⟩] [4,5,10,83,84] (z [⟨none,none,.loud (.st 1),[.t 84,.c (.bool true)]⟩] [4,5,10,83] (z [f 85 2 10] [4,5,10,83,85] (z [s 9 85 83] [4,5,10] (.ops [] [4,5,10]))))) (.both (z [⟨none,none,.loud (.st 1),[.t 84,.c (.bool true)]⟩] [4,5,10,12] (z [⟨some 83,none,.load (.ld 9 true),[.t 12]⟩] [4,5,10,83] (z [f 85 2 10] [4,5,10,83,85] (z [s 9 85 83] [4,5,10] (.ops [] [4,5,10]))))) (.top)))) (z [⟨some 86,none,.load (.ld 12 true),[.t 10]⟩,p 87 (.build [(.int .i64 0),(.int .i64 0),.nils] []) [],s 12 4 86,s 3 5 87] [4,5] .ret)
def t161_73:BC := .seq (z [m 73 13,m 74 1,g 75 201 [.t 73,.t 74],m 15 75] [4,5,10,12,15] (z [m 76 15,c 77 .gtr 76 0] [4,5,10,12,15,77] (.cond (.t 77) (z [p 78 (.build [.nils,(.bool false),(.int .i64 0),.nils,(.int .u32 0),(.bool false),(.int .u32 0),(.bool false),(.int .u32 0),(.bool false),.nils,.nils] []) [],m 79 15,u 80 (.conv .u8) 79,⟨some 81,none,.alloc (.mksl 1 1),[.t 80]⟩,g 82 198 [.c (.int .i64 3),.t 81],s 12 4 78,s 3 5 82] [4,5] .ret) .skip))) t161_84
def t161_67:BC := .seq (z [f 67 11 10,l 68 1 67,u 69 .len 68,c 70 .eql 69 0] [1,4,5,10,12,13,70] (.cond (.t 70) (z [⟨some 71,none,.load (.ld 12 true),[.t 10]⟩,p 72 (.build [(.int .i64 0),(.int .i64 0),.nils] []) [],s 12 4 71,s 3 5 72] [4,5] .ret) .skip)) t161_73
def t161_58:BC := .seq (z [m 58 9,g 59 199 [.t 58],m 57 59,e 60 0 57,e 61 1 57,f 62 11 10,s 1 62 60,m 11 61] [1,4,5,10,11,12,13] (z [m 63 11,u 64 .not 63] [1,4,5,10,12,13,64] (.cond (.t 64) (z [p 65 (.build [.nils,(.bool false),(.int .i64 0),.nils,(.int .u32 0),(.bool false),(.int .u32 0),(.bool false),(.int .u32 0),(.bool false),.nils,.nils] []) [],g 66 198 [.c (.int .i64 10),.c .nils],s 12 4 65,s 3 5 66] [4,5] .ret) .skip))) t161_67
def t161_46:BC:=z [m 46 8,m 47 1,g 48 200 [.t 46,.t 47],m 45 48,e 49 0 45,e 50 1 45,e 51 2 45,⟨some 12,none,.alloc (.alloc [(.int .i64 0),.nils,(.int .u32 0),(.bool false),(.int .u32 0),(.bool false),(.int .u32 0),(.bool false),.nils]),[]⟩,⟨some 14,none,.alloc (.alloc [(.int .i64 0),(.int .i64 0),.nils]),[]⟩,s 9 12 49,m 13 50,s 3 14 51] [1,4,5,9,10,12,13,14] (.seq (z [f 52 0 14,l 53 1 52,c 54 .neq 53 0] [1,4,5,9,10,12,13,14,54] (.cond (.t 54) (.seq (z [p 55 (.build [.nils,(.bool false),(.int .i64 0),.nils,(.int .u32 0),(.bool false),(.int .u32 0),(.bool false),(.int .u32 0),(.bool false),.nils,.nils] []) []] [4,5,14,55] (.both (z [⟨some 56,none,.load (.ld 3 true),[.t 14]⟩] [4,5,55,56] (z [s 12 4 55] [4,5,56] (z [s 3 5 56] [4,5] (.ops [] [4,5])))) (.both (z [s 12 4 55] [4,5,14] (z [⟨some 56,none,.load (.ld 3 true),[.t 14]⟩] [4,5,56] (z [s 3 5 56] [4,5] (.ops [] [4,5])))) (.top)))) .ret) .skip)) t161_58)
def t161_10:BC:=z [⟨some 10,none,.alloc (.alloc [.nils,(.bool false),(.int .i64 0),.nils,(.int .u32 0),(.bool false),(.int .u32 0),(.bool false),(.int .u32 0),(.bool false),.nils,.nils]),[]⟩] [1,4,5,7,8,9,10] (z [k 11 (.bool false)] [1,4,5,7,8,9,10] (.seq (z [m 36 7,g 37 199 [.t 36],m 35 37,e 38 0 35,e 39 1 35,f 40 0 10,s 1 40 38,m 11 39] [1,4,5,8,9,10,11] (z [m 41 11,u 42 .not 41] [1,4,5,8,9,10,42] (.cond (.t 42) (z [p 43 (.build [.nils,(.bool false),(.int .i64 0),.nils,(.int .u32 0),(.bool false),(.int .u32 0),(.bool false),(.int .u32 0),(.bool false),.nils,.nils] []) [],g 44 198 [.c (.int .i64 10),.c .nils],s 12 4 43,s 3 5 44] [4,5] .ret) .skip))) t161_46))
def b161:BC:=z [⟨some 4,none,.alloc (.alloc [.nils,(.bool false),(.int .i64 0),.nils,(.int .u32 0),(.bool false),(.int .u32 0),(.bool false),(.int .u32 0),(.bool false),.nils,.nils]),[]⟩,⟨some 5,none,.alloc (.alloc [(.int .i64 0),(.int .i64 0),.nils]),[]⟩] [0,1,4,5] (z [m 16 0,g 17 190 [.t 16],m 6 17] [1,4,5,6] (z [m 18 6,m 19 6,g 20 192 [.t 19],g 21 196 [.t 18,.t 20],m 7 21] [1,4,5,6,7] (z [m 22 6,m 23 6,g 24 192 [.t 23],g 25 196 [.t 22,.t 24],m 8 25] [1,4,5,6,7,8] (z [m 26 6,m 27 6,g 28 195 [.t 27],g 29 196 [.t 26,.t 28],m 9 29] [1,4,5,6,7,8,9] (.seq (z [m 30 6,g 31 197 [.t 30],u 32 .not 31] [1,4,5,7,8,9,32] (.cond (.t 32) (z [p 33 (.build [.nils,(.bool false),(.int .i64 0),.nils,(.int .u32 0),(.bool false),(.int .u32 0),(.bool false),(.int .u32 0),(.bool false),.nils,.nils] []) [],g 34 198 [.c (.int .i64 1),.c .nils],s 12 4 33,s 3 5 34] [4,5] .ret) .skip)) t161_10)))))
def F161:Fn Tryz.prog 161:=Fn.mkX false b161 [.c 4 12 true,.c 5 3 true] 88 Tryz.f161 _ Tryz.func161 (by decide) rfl Tryz.ntmps161 (by kernel_rfl) (by kernel_rfl)
def t201_13:BC := .seq (z [m 13 5,u 14 .len 13,j 15 0] [0,13,14,15] (.block 0 (.loop [0,13,14,15] (z [b 16 .lss 15 14] [0,13,14,15,16] (.seq (.cond (.t 16) .skip (.exit 0)) (.seq (.block 1 (z [x 17 1 13 15,l 18 1 17,m 7 18] [0,7,13,14,15] (z [m 19 0,m 20 7,g 21 221 [.t 19,.t 20],u 22 .not 21] [0,7,13,14,15,22] (.cond (.t 22) (z [m 23 7,m 4 23] [4] .ret) .skip)))) (.ops [c 24 .add 15 1,m 15 24] [0,13,14,15]))))))) (z [j 4 0] [4] .ret)
def b201:BC:=z [j 4 0] [0,1] (z [⟨some 8,none,.alloc (.mksl 1 3),[.c (.int .i64 1),.c (.int .i64 2),.c (.int .i64 3)]⟩,m 5 8] [0,1,5] (.seq (z [m 9 1] [0,5,9] (.cond (.t 9) (.ops [m 10 5,⟨some 11,none,.alloc (.mksl 1 1),[.c (.int .i64 5)]⟩,⟨some 12,none,.loud (.app 1 8),[.t 10,.t 11]⟩,m 5 12] [0,5]) .skip)) t201_13))
def F201:Fn Tryz.prog 201:=Fn.mkX false b201 [.t 4] 25 Tryz.f201 _ Tryz.func201 (by decide) rfl Tryz.ntmps201 (by kernel_rfl) (by kernel_rfl)
end Go.Am.Ts2
namespace Go.Am
open Go.Proofs Go.Sort
theorem zi2 (l:List Int) (hl:l.length≤1000000) (x:Int):Pur Tryz.prog 240 [.sl 1 (l.map cI),.int .i64 x] (.int .i64 (if x ∈ l then (l.idxOf x:Int) else -1)):=by
 refine zw Tst.F240 (by simp [Tst.F240,Fn.mkX]) fun σ => ?_
 simp only [Tst.F240,Fn.mkX,Tst.b240]
 simp only [↓vcPre,↓z8,↓reduceIte,vcPost,vcStd,Nat.reduceEqDiff,reduceCtorEq,Nat.reduceAdd,Nat.reduceLeDiff,Int.reduceLT,Int.reduceLE,↓u_setN]
 have wl:IntKind.i64.wrap ((l.length:Nat):Int)=(l.length:Int):=zd (by unfold I64;omega)
 refine LoopQ.inv (S:=Nat) (fun k=>[(0,.sl 1 (l.map cI)),(1,.int .i64 x),(7,.int .i64 (l.length:Int)),(8,.int .i64 (k:Int))]) (fun _=>σ) (fun k=>k≤l.length∧x ∉ l.take k) (fun k=>l.length+1 - k) 0 rfl (Store.sub_refl _) ⟨by omega,by simp⟩ ?_
 rintro k ⟨hk,hx⟩
 simp only [↓vcPre,↓z8,↓reduceIte,vcPost,vcStd,Nat.reduceEqDiff,reduceCtorEq,Nat.reduceAdd,Nat.reduceLeDiff,Int.reduceLT,Int.reduceLE,↓u_setN]
 refine ⟨fun c1 => ?_,fun c1 => ?_⟩
 ·have ek:IntKind.i64.wrap ((k:Int)+1)=((k+1:Nat):Int):=by rw [zd (by unfold I64;omega)];omega
  simp only [cI,ek,↓vcPre,↓z8,↓reduceIte,vcPost,vcStd,Nat.reduceEqDiff,reduceCtorEq,Nat.reduceAdd,Nat.reduceLeDiff,Int.reduceLT,Int.reduceLE,↓u_setN]
  refine ⟨c1,fun e => ?_,fun e => ?_⟩
  ·have hm:x ∈ l:=by rw [e];exact List.getElem_mem c1
   rw [if_pos hm]
   have hsp:l=l.take k++(l[k]::l.drop (k+1)):=by rw [←List.drop_eq_getElem_cons c1,List.take_append_drop]
   have:l.idxOf x=k:=by
    rw [hsp,List.idxOf_append,if_neg hx,←e,List.idxOf_cons_self]
    simp;omega
   omega
  ·refine NextQ.to (k+1) rfl (Store.sub_refl _) (by omega) ⟨by omega,?_⟩
   rw [List.take_succ_eq_append_getElem c1,List.mem_append,List.mem_singleton]
   rintro (h | h)
   ·exact hx h
   ·exact e h
 ·have:k=l.length:=by omega
  subst this
  rw [List.take_length] at hx
  rw [if_neg hx]
theorem zhz (l:List Int) (hl:l.length≤1000000) (x:Int):Pur Tryz.prog 221 [.sl 1 (l.map cI),.int .i64 x] (.bool (decide (x ∈ l))):=by
 refine zw Tst.F221 (by simp [Tst.F221,Fn.mkX]) fun σ => ?_
 simp only [Tst.F221,Fn.mkX,Tst.b221]
 simp only [↓vcPre,↓z8,↓reduceIte,vcPost,vcStd,Nat.reduceEqDiff,reduceCtorEq,Nat.reduceAdd,Nat.reduceLeDiff,Int.reduceLT,Int.reduceLE,↓u_setN]
 refine (zi2 l hl x).Q ?_
 simp only [↓vcPre,↓z8,↓reduceIte,vcPost,vcStd,Nat.reduceEqDiff,reduceCtorEq,Nat.reduceAdd,Nat.reduceLeDiff,Int.reduceLT,Int.reduceLE,↓u_setN]
 by_cases h:x ∈ l
 ·rw [if_pos h];simp [h]
 ·rw [if_neg h];simp [h]
def mustF (inner:Bool):List Int:=[1,2,3]++(if inner then [5] else [])
def lacksF (ty:List Int) (inner:Bool):Int:=((mustF inner).find? (fun k => !decide (k ∈ ty))).getD 0
theorem z1n {ty:List Int} (hl:ty.length≤1000000) {inner:Bool} {σ t:Store} {v:AV} (ho:Own 1 σ ((mustF inner).map cI) v t) (hs:Store.sub σ t) (E:List (Nat×AV)) (hE:E=[]∨∃ b,E=[(9,.bool b)]) {n rr:Env→Store→Prop} {xx:Nat→Env→Store→Prop} (hr:∀ t',Store.sub σ t'→rr [(4,.int .i64 (lacksF ty inner))] t') :
 bwp Tryz.prog Ts2.t201_13 ([(0,.sl 1 (ty.map cI)),(5,v)]++E) t n rr xx:=by
 simp only [Ts2.t201_13]
 have hr2:=Rd.own ho
 have hm:(mustF inner).length≤4:=by unfold mustF;cases inner <;> simp
 have lv:pv .len [v]=some (.int .i64 ((mustF inner).length:Int)):=by rw [hr2.2];simp
 have wl:IntKind.i64.wrap (((mustF inner).length:Nat):Int)=((mustF inner).length:Int):=zd (by unfold I64;omega)
 rcases hE with rfl | ⟨b,rfl⟩
 all_goals
  simp only [lv,↓vcPre,↓z8,↓reduceIte,vcPost,vcStd,Nat.reduceEqDiff,reduceCtorEq,Nat.reduceAdd,Nat.reduceLeDiff,Int.reduceLT,Int.reduceLE,↓u_setN]
  refine LoopQ.inv (S:=Nat) (fun k=>[(0,.sl 1 (ty.map cI)),(13,v),(14,.int .i64 ((mustF inner).length:Int)),(15,.int .i64 (k:Int))]) (fun _=>t) (fun k=>k≤(mustF inner).length∧∀ x ∈ (mustF inner).take k,x ∈ ty) (fun k=>(mustF inner).length+1 - k) 0 rfl (Store.sub_refl _) ⟨by omega,by simp⟩ ?_
  rintro k ⟨hk,hx⟩
  simp only [↓vcPre,↓z8,↓reduceIte,vcPost,vcStd,Nat.reduceEqDiff,reduceCtorEq,Nat.reduceAdd,Nat.reduceLeDiff,Int.reduceLT,Int.reduceLE,↓u_setN]
  refine ⟨fun c1 => ?_,fun c1 => ?_⟩
  ·have ek:IntKind.i64.wrap ((k:Int)+1)=((k+1:Nat):Int):=by rw [zd (by unfold I64;omega)];omega
   obtain ⟨p,hp,hp2⟩:=hr2.at (k:=k) (by simp;omega)
   have r1:=hp2 t (Store.sub_refl _) 1
   simp only [List.getElem_map] at r1
   have hkl:k<(mustF inner).length:=by omega
   simp only [hp,r1,cI,↓vcPre,↓z8,↓reduceIte,vcPost,vcStd,Nat.reduceEqDiff,reduceCtorEq,Nat.reduceAdd,Nat.reduceLeDiff,Int.reduceLT,Int.reduceLE,↓u_setN]
   refine (zhz ty hl _).Q ?_
   simp only [ek,↓vcPre,↓z8,↓reduceIte,vcPost,vcStd,Nat.reduceEqDiff,reduceCtorEq,Nat.reduceAdd,Nat.reduceLeDiff,Int.reduceLT,Int.reduceLE,↓u_setN]
   refine ⟨fun c2 => ?_,fun c2 => ?_⟩
   ·have e:lacksF ty inner=(mustF inner)[k]:=by
     unfold lacksF
     have hsp:mustF inner=(mustF inner).take k++((mustF inner)[k]::(mustF inner).drop (k+1)):=by rw [←List.drop_eq_getElem_cons hkl,List.take_append_drop]
     have h1:((mustF inner).take k).find? (fun k => !decide (k ∈ ty))=none:=by
      rw [List.find?_eq_none]
      intro x hx2
      simp [hx x hx2]
     rw [show (mustF inner).find? (fun k => !decide (k ∈ ty))=some (mustF inner)[k] by
      conv=>lhs;rw [hsp]
      rw [List.find?_append,h1,List.find?_cons]
      simp [c2]]
     rfl
    rw [←e]
    exact hr _ hs
   ·refine NextQ.to (k+1) rfl (Store.sub_refl _) (by omega) ⟨by omega,?_⟩
    intro x hx2
    rw [List.take_succ_eq_append_getElem hkl,List.mem_append,List.mem_singleton] at hx2
    rcases hx2 with h | rfl
    ·exact hx x h
    ·exact c2
  ·have e:lacksF ty inner=0:=by
    unfold lacksF
    rw [List.find?_eq_none.2]
    ·rfl
    ·intro x hx2
     rw [List.take_of_length_le (by omega)] at hx
     simp [hx x hx2]
   rw [←e]
   exact hr _ hs
theorem zhx (ty:List Int) (hl:ty.length≤1000000) (inner:Bool):Pur Tryz.prog 201 [.sl 1 (ty.map cI),.bool inner] (.int .i64 (lacksF ty inner)):=by
 refine zw Ts2.F201 (by simp [Ts2.F201,Fn.mkX]) fun σ => ?_
 simp only [Ts2.F201,Fn.mkX,Ts2.b201]
 simp only [z5f,↓vcPre,↓z8,↓reduceIte,vcPost,vcStd,Nat.reduceEqDiff,reduceCtorEq,Nat.reduceAdd,Nat.reduceLeDiff,Int.reduceLT,Int.reduceLE,↓u_setN]
 refine AllocQ.i0 fun d hd => ?_
 have hD:=Store.sub_set σ d (.arr 1 [[.int .i64 1],[.int .i64 2],[.int .i64 3]]) hd
 have oD:Own 1 σ (([1,2,3]:List Int).map cI) (.os d 1 0 3) (σ.set d (.arr 1 [[.int .i64 1],[.int .i64 2],[.int .i64 3]])):=Own.new (L:=[[.int .i64 1],[.int .i64 2],[.int .i64 3]]) hd
 generalize σ.set d (.arr 1 [[.int .i64 1],[.int .i64 2],[.int .i64 3]])=D at hD oD ⊢
 cases inner with
 | false =>
   simp only [↓vcPre,↓z8,↓reduceIte,vcPost,vcStd,Nat.reduceEqDiff,reduceCtorEq,Nat.reduceAdd,Nat.reduceLeDiff,Int.reduceLT,Int.reduceLE,↓u_setN]
   exact z1n (inner:=false) hl oD hD [(9,.bool false)] (.inr ⟨_,rfl⟩) fun t' h=>⟨rfl,h⟩
 | true =>
   simp only [↓vcPre,↓z8,↓reduceIte,vcPost,vcStd,Nat.reduceEqDiff,reduceCtorEq,Nat.reduceAdd,Nat.reduceLeDiff,Int.reduceLT,Int.reduceLE,↓u_setN]
   refine AllocQ.i0 fun q hq => ?_
   simp only [↓vcPre,↓z8,↓reduceIte,vcPost,vcStd,Nat.reduceEqDiff,reduceCtorEq,Nat.reduceAdd,Nat.reduceLeDiff,Int.reduceLT,Int.reduceLE,↓u_setN]
   have hsq:=Store.sub_set D q (.arr 1 [[.int .i64 5]]) hq
   refine Own.appM (τ:=σ) (Store.sub_trans hD hsq) (oD.mono hsq) (zq (Store.set_same _ _ _) rfl) (by simp) fun v1 u1 hu1 ho1 => ?_
   exact z1n (inner:=true) hl ho1 hu1 [] (.inl rfl) fun t' h=>⟨rfl,h⟩
theorem z5j (n:Int) (v:AV) (hv:v.isTup=false∧v.cells=[v]):Pur Tryz.prog 198 [.int .i64 n,v] (.agg [.int .i64 3,.int .i64 n,v]):=by
 refine zw Tst.F198 (by simp [Tst.F198,Fn.mkX]) fun σ => ?_
 simp only [Tst.F198,Fn.mkX,Tst.b198]
 simp only [↓vcPre,↓z8,↓reduceIte,vcPost,vcStd,Nat.reduceEqDiff,reduceCtorEq,Nat.reduceAdd,Nat.reduceLeDiff,Int.reduceLT,Int.reduceLE,↓u_setN]
 refine AllocQ.i0 fun i hi => ?_
 simp only [hv.1,hv.2,↓vcPre,↓z8,↓reduceIte,vcPost,vcStd,Nat.reduceEqDiff,reduceCtorEq,Nat.reduceAdd,Nat.reduceLeDiff,Int.reduceLT,Int.reduceLE,↓u_setN]
 exact zb (Store.sub_set _ _ _ hi) hi
end Go.Am
namespace Go.Am
open Go.Proofs Go.Sort
theorem Own.addG {esz e2:Nat} {τ s s':Store} {L M:List (List AV)} {v w:AV} (h:Own esz τ L v s) (hτ:Store.sub τ s) (hs:Store.sub s s') (hw:Own e2 s M w s'):∃ τ',Store.sub τ τ'∧Store.sub τ' s'∧Own esz τ' L v s'∧Rd e2 τ' M w:=by
 rcases hw with ⟨rfl,rfl⟩ | ⟨g,rfl,hg,hh⟩
 ·exact ⟨τ,Store.sub_refl _,Store.sub_trans hτ hs,h.mono hs,Rd.nils⟩
 ·refine ⟨τ.set g (.arr e2 M),Store.sub_set _ _ _ (zo hτ hg),fun j o hj => ?_,?_,Rd.os (Store.set_same _ _ _)⟩
  ·by_cases e:j=g
   ·subst e;rw [Store.set_same] at hj;cases hj;exact hh
   ·rw [Store.set_ne _ _ e] at hj;exact hs _ _ (hτ _ _ hj)
  ·rcases h with h | ⟨k,a,b,c⟩
   ·exact .inl h
   ·have hkg:¬ k=g:=fun e=>by rw [e,hg] at c;cases c
    exact .inr ⟨k,a,by rw [Store.set_ne _ _ hkg];exact b,hs _ _ c⟩
theorem z1q (a:At) (h8:a.cms.length≤100000) {T s:Store} {i:Nat} {L:List Int} {v:AV} (hTi:T i=some (boxC a)) (hs:Store.sub T s) (h:Own 1 T (L.map cB) v s) (hL:L.length≤9000000) {n r:Env→Store→Prop} {x:Nat→Env→Store→Prop}
 (hr:∀ v' s',Store.sub T s'→Own 1 T ((L++(if a.cms=[] then [] else oneA 192 8 (encW a.cms))).map cB) v' s'→r [(2,v')] s'):bwp Tryz.prog Tsj.t87_39 [(1,.ptr i 0),(3,v)] s n r x:=by
 simp only [Tsj.t87_39]
 have hi:=hs _ _ hTi
 simp only [hi,boxC,↓vcPre,↓z8,↓reduceIte,vcPost,vcStd,Nat.reduceEqDiff,reduceCtorEq,Nat.reduceAdd,Nat.reduceLeDiff,Int.reduceLT,Int.reduceLE,↓u_setN]
 have hc:=xr a.cms
 refine ⟨fun c1 => ?_,fun c1 => ?_⟩
 ·obtain ⟨τ1,p1,p2,p3,p4⟩:∃ τ1,Store.sub T τ1∧Store.sub τ1 s∧Own 1 T (L.map cB) v s∧∀ t,Store.sub τ1 t→Own 1 T (L.map cB) v t:=⟨s,hs,Store.sub_refl _,h,fun t ht=>h.mono ht⟩
  refine LoopQ.inv (S:=Nat×AV×Store) (fun q=>[(1,.ptr i 0),(3,v),(4,q.2.1),(5,.int .i64 (q.1:Int))]) (fun q=>q.2.2) (fun q=>q.1≤a.cms.length∧Store.sub s q.2.2∧Own 1 s ((encW (a.cms.take q.1)).map cB) q.2.1 q.2.2) (fun q=>a.cms.length+1 - q.1) (0,.nils,s) rfl (Store.sub_refl _) ⟨by simp only;omega,Store.sub_refl _,by simpa [encW] using Own.nil⟩ ?_
  rintro ⟨k,w,s1⟩ ⟨hk,hs1,ho1⟩
  simp only at hk hs1 ho1
  have hle:=xr (a.cms.take k)
  rw [List.length_take] at hle
  simp only [hs1 _ _ hi,boxC,↓vcPre,↓z8,↓reduceIte,vcPost,vcStd,Nat.reduceEqDiff,reduceCtorEq,Nat.reduceAdd,Nat.reduceLeDiff,Int.reduceLT,Int.reduceLE,↓u_setN]
  refine ⟨fun d1 => ?_,fun d1 => ?_⟩
  ·have ek:IntKind.i64.wrap ((k:Int)+1)=((k+1:Nat):Int):=by rw [zd (by unfold I64;omega)];omega
   refine ⟨d1,by simp [cU],?_⟩
   simp only [cU,↓vcPre,↓z8,↓reduceIte,vcPost,vcStd,Nat.reduceEqDiff,reduceCtorEq,Nat.reduceAdd,Nat.reduceLeDiff,Int.reduceLT,Int.reduceLE,↓u_setN]
   refine (s94 (Rd.own ho1) (by omega) _).Q ?_
   rintro r' s2 ⟨k1,k2⟩
   simp only [↓vcPre,↓z8,↓reduceIte,vcPost,vcStd,Nat.reduceEqDiff,reduceCtorEq,Nat.reduceAdd,Nat.reduceLeDiff,Int.reduceLT,Int.reduceLE,↓u_setN]
   rw [ek]
   refine NextQ.to (k+1,r',s2) rfl (Store.sub_refl _) (by simp only;omega) ⟨by simp only;omega,Store.sub_trans hs1 k1,?_⟩
   simp only
   rw [z2g _ _ d1]
   exact k2.weak hs1
  ·have e:a.cms.take k=a.cms:=List.take_of_length_le (by omega)
   rw [e] at ho1
   obtain ⟨τ',q1,q2,q3,q4⟩:=Own.addG h hs hs1 ho1
   refine (z11 q2 q3 q4 (by omega) (by omega) 192 8 (by decide) (by decide)).Q ?_
   rintro r' s2 ⟨k1,k2⟩
   simp only [↓vcPre,↓z8,↓reduceIte,vcPost,vcStd,Nat.reduceEqDiff,reduceCtorEq,Nat.reduceAdd,Nat.reduceLeDiff,Int.reduceLT,Int.reduceLE,↓u_setN]
   have:=hr r' s2 (Store.sub_trans q1 k1)
   rw [if_neg (fun e=>by rw [e] at c1;simp at c1)] at this
   exact this (k2.weak q1)
 ·have:=hr v s hs
  rw [if_pos (List.length_eq_zero_iff.1 (by omega)),List.append_nil] at this
  exact this h
theorem z1p (a:At) (h8:a.cms.length≤100000) {T s:Store} {i:Nat} {L:List Int} {v:AV} (hTi:T i=some (boxC a)) (hs:Store.sub T s) (h:Own 1 T (L.map cB) v s) (hL:L.length≤8000000) {n r:Env→Store→Prop} {x:Nat→Env→Store→Prop}
 (hr:∀ v' s',Store.sub T s'→Own 1 T ((L++(if a.atm then oneA 64 6 [] else [])++(if a.cms=[] then [] else oneA 192 8 (encW a.cms))).map cB) v' s'→r [(2,v')] s'):bwp Tryz.prog Tsj.t87_35 [(1,.ptr i 0),(3,v)] s n r x:=by
 simp only [Tsj.t87_35]
 have hi:=hs _ _ hTi
 cases g:a.atm
 ·simp only [hi,boxC,g,↓vcPre,↓z8,↓reduceIte,vcPost,vcStd,Nat.reduceEqDiff,reduceCtorEq,Nat.reduceAdd,Nat.reduceLeDiff,Int.reduceLT,Int.reduceLE,↓u_setN]
  refine z1q a h8 hTi hs h (by omega) fun v' s' hs' ho' => ?_
  have:=hr v' s' hs'
  rw [g] at this
  exact this (by simpa using ho')
 ·simp only [hi,boxC,g,↓vcPre,↓z8,↓reduceIte,vcPost,vcStd,Nat.reduceEqDiff,reduceCtorEq,Nat.reduceAdd,Nat.reduceLeDiff,Int.reduceLT,Int.reduceLE,↓u_setN]
  refine (z11 hs h (M:=[]) Rd.nils (by omega) (by simp) 64 6 (by decide) (by decide)).Q ?_
  rintro r' s1 ⟨k1,k2⟩
  simp only [↓vcPre,↓z8,↓reduceIte,vcPost,vcStd,Nat.reduceEqDiff,reduceCtorEq,Nat.reduceAdd,Nat.reduceLeDiff,Int.reduceLT,Int.reduceLE,↓u_setN]
  refine z1q a h8 hTi k1 k2 (by have:=xi 64 6 [];simp at this ⊢;omega) fun v' s' hs' ho' => ?_
  have:=hr v' s' hs'
  rw [g] at this
  exact this ho'
theorem z1o (a:At) (h8:a.cms.length≤100000) {T s:Store} {i:Nat} {L:List Int} {v:AV} (hTi:T i=some (boxC a)) (hs:Store.sub T s) (h:Own 1 T (L.map cB) v s) (hL:L.length≤7000000) {n r:Env→Store→Prop} {x:Nat→Env→Store→Prop}
 (hr:∀ v' s',Store.sub T s'→Own 1 T ((L++(if a.hp then oneA 64 5 (b4 a.prf) else [])++(if a.atm then oneA 64 6 [] else [])++(if a.cms=[] then [] else oneA 192 8 (encW a.cms))).map cB) v' s'→r [(2,v')] s'):bwp Tryz.prog Tsj.t87_28 [(1,.ptr i 0),(3,v)] s n r x:=by
 simp only [Tsj.t87_28]
 have hi:=hs _ _ hTi
 cases g:a.hp
 ·simp only [hi,boxC,g,↓vcPre,↓z8,↓reduceIte,vcPost,vcStd,Nat.reduceEqDiff,reduceCtorEq,Nat.reduceAdd,Nat.reduceLeDiff,Int.reduceLT,Int.reduceLE,↓u_setN]
  refine z1p a h8 hTi hs h (by omega) fun v' s' hs' ho' => ?_
  have:=hr v' s' hs'
  rw [g] at this
  exact this (by simpa using ho')
 ·have hTi5:=(hs) _ _ hTi
  simp only [hTi5,boxC,g,↓vcPre,↓z8,↓reduceIte,vcPost,vcStd,Nat.reduceEqDiff,reduceCtorEq,Nat.reduceAdd,Nat.reduceLeDiff,Int.reduceLT,Int.reduceLE,↓u_setN]
  refine (s94 (s:=s) (L:=[]) Rd.nils (by simp) a.prf).Q ?_
  rintro r s' ⟨k1,k2⟩
  rw [List.nil_append] at k2
  obtain ⟨τ',q1,q2,q3,q4⟩:=Own.addG h (hs) k1 k2
  simp only [↓vcPre,↓z8,↓reduceIte,vcPost,vcStd,Nat.reduceEqDiff,reduceCtorEq,Nat.reduceAdd,Nat.reduceLeDiff,Int.reduceLT,Int.reduceLE,↓u_setN]
  refine (z11 q2 q3 q4 (by omega) (by rw [vq];omega) 64 5 (by decide) (by decide)).Q ?_
  rintro r s1 ⟨h1,k3⟩
  have h1:=Store.sub_trans q1 h1
  have k3:=Own.weak k3 q1
  simp only [↓vcPre,↓z8,↓reduceIte,vcPost,vcStd,Nat.reduceEqDiff,reduceCtorEq,Nat.reduceAdd,Nat.reduceLeDiff,Int.reduceLT,Int.reduceLE,↓u_setN]
  refine z1p a h8 hTi h1 k3 (by have:=u0 64 5 (b4 a.prf) L;rw [vq] at this;omega) fun v' s' hs' ho' => ?_
  have:=hr v' s' hs'
  rw [g] at this
  exact this ho'
theorem z6g (a:At) (h8:a.cms.length≤100000) {T s:Store} {i:Nat} {L:List Int} {v:AV} (hTi:T i=some (boxC a)) (hs:Store.sub T s) (h:Own 1 T (L.map cB) v s) (hL:L.length≤6000000) {n r:Env→Store→Prop} {x:Nat→Env→Store→Prop}
 (hr:∀ v' s',Store.sub T s'→Own 1 T ((L++(if a.hm then oneA 128 4 (b4 a.med) else [])++(if a.hp then oneA 64 5 (b4 a.prf) else [])++(if a.atm then oneA 64 6 [] else [])++(if a.cms=[] then [] else oneA 192 8 (encW a.cms))).map cB) v' s'→r [(2,v')] s'):bwp Tryz.prog Tsj.t87_21 [(1,.ptr i 0),(3,v)] s n r x:=by
 simp only [Tsj.t87_21]
 have hi:=hs _ _ hTi
 cases g:a.hm
 ·simp only [hi,boxC,g,↓vcPre,↓z8,↓reduceIte,vcPost,vcStd,Nat.reduceEqDiff,reduceCtorEq,Nat.reduceAdd,Nat.reduceLeDiff,Int.reduceLT,Int.reduceLE,↓u_setN]
  refine z1o a h8 hTi hs h (by omega) fun v' s' hs' ho' => ?_
  have:=hr v' s' hs'
  rw [g] at this
  exact this (by simpa using ho')
 ·have hTi4:=(hs) _ _ hTi
  simp only [hTi4,boxC,g,↓vcPre,↓z8,↓reduceIte,vcPost,vcStd,Nat.reduceEqDiff,reduceCtorEq,Nat.reduceAdd,Nat.reduceLeDiff,Int.reduceLT,Int.reduceLE,↓u_setN]
  refine (s94 (s:=s) (L:=[]) Rd.nils (by simp) a.med).Q ?_
  rintro r s' ⟨k1,k2⟩
  rw [List.nil_append] at k2
  obtain ⟨τ',q1,q2,q3,q4⟩:=Own.addG h (hs) k1 k2
  simp only [↓vcPre,↓z8,↓reduceIte,vcPost,vcStd,Nat.reduceEqDiff,reduceCtorEq,Nat.reduceAdd,Nat.reduceLeDiff,Int.reduceLT,Int.reduceLE,↓u_setN]
  refine (z11 q2 q3 q4 (by omega) (by rw [vq];omega) 128 4 (by decide) (by decide)).Q ?_
  rintro r s1 ⟨h1,k3⟩
  have h1:=Store.sub_trans q1 h1
  have k3:=Own.weak k3 q1
  simp only [↓vcPre,↓z8,↓reduceIte,vcPost,vcStd,Nat.reduceEqDiff,reduceCtorEq,Nat.reduceAdd,Nat.reduceLeDiff,Int.reduceLT,Int.reduceLE,↓u_setN]
  refine z1o a h8 hTi h1 k3 (by have:=u0 128 4 (b4 a.med) L;rw [vq] at this;omega) fun v' s' hs' ho' => ?_
  have:=hr v' s' hs'
  rw [g] at this
  exact this ho'
def encOk (a:At):Prop:=a.path.length≤1000∧(∀ s ∈ a.path,s.ls.length≤1000)∧a.cms.length≤1000
theorem z4e:∀ (m:List Seg),(∀ s ∈ m,s.ls.length≤1000)→(encPath m).length≤4002*m.length:=by
 intro m
 induction m with
 | nil=>intro _;simp [encPath]
 | cons s r ih =>
   intro h
   have h1:=ih fun x hx=>h x (by simp [hx])
   have h2:=h s (by simp)
   have h3:=xr s.ls
   simp only [encPath,List.flatMap_cons,List.length_append,encSeg,List.length_cons,List.length_nil] at *
   omega
theorem s87 (a:At) (ha:encOk a) (σ:Store):ACalls Tryz.prog 87 [.agg a.c] σ (fun r s=>Store.sub σ s∧Own 1 σ ((encA a).map cB) r s):=by
 refine ze Tsj.F87 (by simp [Tsj.F87,Fn.mkX]) ?_
 simp only [Tsj.F87,Fn.mkX,Tsj.b87]
 have e9:∀ x:At,x.c.length=9:=fun _=>rfl
 obtain ⟨a1,a2,a3⟩:=ha
 have hpl:=z4e a.path a2
 simp only [↓vcPre,↓z8,↓reduceIte,vcPost,vcStd,Nat.reduceEqDiff,reduceCtorEq,Nat.reduceAdd,Nat.reduceLeDiff,Int.reduceLT,Int.reduceLE,↓u_setN]
 refine AllocQ.i0 fun i hi => ?_
 have hsb:=Store.sub_set σ i (.box a.c) hi
 have hTi:(σ.set i (.box a.c)) i=some (boxC a):=Store.set_same _ _ _
 change bops _ _ _ (σ.set i (.box a.c)) _
 generalize σ.set i (.box a.c)=T at hsb hTi ⊢
 simp only [hTi,boxC,↓vcPre,↓z8,↓reduceIte,vcPost,vcStd,Nat.reduceEqDiff,reduceCtorEq,Nat.reduceAdd,Nat.reduceLeDiff,Int.reduceLT,Int.reduceLE,↓u_setN]
 refine AllocQ.i0 fun b hb => ?_
 simp only [↓vcPre,↓z8,↓reduceIte,vcPost,vcStd,Nat.reduceEqDiff,reduceCtorEq,Nat.reduceAdd,Nat.reduceLeDiff,Int.reduceLT,Int.reduceLE,↓u_setN]
 have hTb:=Store.sub_set T b (.arr 1 [cB (IntKind.u8.wrap a.org)]) hb
 refine (z11 (τ:=T.set b (.arr 1 [cB (IntKind.u8.wrap a.org)])) (L:=[]) (M:=[IntKind.u8.wrap a.org]) (Store.sub_refl _) Own.nil (Rd.os (Store.set_same _ _ _)) (by simp) (by simp) 64 1 (by decide) (by decide)).Q ?_
 rintro r s1 ⟨h1,m1⟩
 have h1:=Store.sub_trans hTb h1
 have m1:=Own.weak m1 hTb
 have l1:=u0 64 1 [IntKind.u8.wrap a.org] []
 simp only [List.length_nil,List.length_cons] at l1
 simp only [h1 _ _ hTi,boxC,↓vcPre,↓z8,↓reduceIte,vcPost,vcStd,Nat.reduceEqDiff,reduceCtorEq,Nat.reduceAdd,Nat.reduceLeDiff,Int.reduceLT,Int.reduceLE,↓u_setN]
 refine (zhs a.path (by omega) a2).Q ?_
 simp only [↓vcPre,↓z8,↓reduceIte,vcPost,vcStd,Nat.reduceEqDiff,reduceCtorEq,Nat.reduceAdd,Nat.reduceLeDiff,Int.reduceLT,Int.reduceLE,↓u_setN]
 refine (z11 h1 m1 (Rd.sl (L:=(encPath a.path).map cB)) (by omega) (by omega) 64 2 (by decide) (by decide)).Q ?_
 rintro r s2 ⟨h2,m2⟩
 have l2:=u0 64 2 (encPath a.path) ([]++oneA 64 1 [IntKind.u8.wrap a.org])
 simp only [↓vcPre,↓z8,↓reduceIte,vcPost,vcStd,Nat.reduceEqDiff,reduceCtorEq,Nat.reduceAdd,Nat.reduceLeDiff,Int.reduceLT,Int.reduceLE,↓u_setN]
 have hTi3:=(h2) _ _ hTi
 simp only [hTi3,boxC,e9,↓vcPre,↓z8,↓reduceIte,vcPost,vcStd,Nat.reduceEqDiff,reduceCtorEq,Nat.reduceAdd,Nat.reduceLeDiff,Int.reduceLT,Int.reduceLE,↓u_setN]
 refine (s94 (s:=s2) (L:=[]) Rd.nils (by simp) a.nxt).Q ?_
 rintro r s' ⟨k1,k2⟩
 rw [List.nil_append] at k2
 obtain ⟨τ',q1,q2,q3,q4⟩:=Own.addG m2 (h2) k1 k2
 simp only [↓vcPre,↓z8,↓reduceIte,vcPost,vcStd,Nat.reduceEqDiff,reduceCtorEq,Nat.reduceAdd,Nat.reduceLeDiff,Int.reduceLT,Int.reduceLE,↓u_setN]
 refine (z11 q2 q3 q4 (by omega) (by rw [vq];omega) 64 3 (by decide) (by decide)).Q ?_
 rintro r s3 ⟨h1,k3⟩
 have h1:=Store.sub_trans q1 h1
 have k3:=Own.weak k3 q1
 have l3:=u0 64 3 (b4 a.nxt) ([]++oneA 64 1 [IntKind.u8.wrap a.org]++oneA 64 2 (encPath a.path))
 rw [vq] at l3
 simp only [↓vcPre,↓z8,↓reduceIte,vcPost,vcStd,Nat.reduceEqDiff,reduceCtorEq,Nat.reduceAdd,Nat.reduceLeDiff,Int.reduceLT,Int.reduceLE,↓u_setN]
 refine z6g a (by omega) hTi h1 k3 (by omega) fun v' s' hs' ho' => ?_
 refine EndQ.to s' _ rfl (Store.sub_refl _) ⟨Store.sub_trans hsb hs',?_⟩
 have:=ho'.weak hsb
 simpa [encA,u8w] using this
end Go.Am
namespace Go.Am
open Go.Proofs Go.Sort
def nextF (a:Int):Int:=bitInt .or .u32 3221225984 (Int.tmod a 6)
theorem z9l {a:Int} (h:0≤a):nextF a=3221225984+a % 6:=by
 unfold nextF
 rw [Int.tmod_eq_emod_of_nonneg h]
 have:a % 6=0∨a % 6=1∨a % 6=2∨a % 6=3∨a % 6=4∨a % 6=5:=by omega
 rcases this with h | h | h | h | h | h <;> rw [h] <;> decide
theorem c39 (a:Int):Pur Tryz.prog 39 [.int .u32 a] (.int .u32 (nextF a)):=by
 refine zw Tst.F39 (by simp [Tst.F39,Fn.mkX]) fun σ => ?_
 simp only [Tst.F39,Fn.mkX,Tst.b39]
 simp only [↓vcPre,↓z8,↓reduceIte,vcPost,vcStd,Nat.reduceEqDiff,reduceCtorEq,Nat.reduceAdd,Nat.reduceLeDiff,Int.reduceLT,Int.reduceLE,↓u_setN]
 exact ⟨by omega,rfl⟩
end Go.Am
namespace Go.Am
theorem z61 {a:Int} (h:0≤a):goodN (nextF a)∧0≤nextF a∧nextF a<4294967296:=by
 rw [z9l h]
 have h1:=Int.emod_nonneg a (b:=6) (by omega)
 have h2:=Int.emod_lt_of_pos a (b:=6) (by omega)
 have e:(3221225984+a % 6) / 16777216=192:=by omega
 refine ⟨?_,by omega,by omega⟩
 unfold goodN
 rw [e];omega
end Go.Am
namespace Go.Am
open Go.Proofs Go.Sort
theorem z1w (inner:Bool):∀ (f:Nat) (b:List Int) (a:At) (S ty:List Int) (a':At) (ty':List Int),decL inner f b a S ty = .ok (a',ty')→U8s b→b.length≤1000000→a.ok→a'.ok∧ty'.length≤ty.length+b.length
 | _,[],a,_,ty,a',ty',h,_,_,ha=>by
   simp only [decL] at h;cases h;exact ⟨ha,by omega⟩
 | 0,_::_,_,_,_,_,_,h,_,_,_=>by simp only [decL] at h;cases h
 | f+1,x::r,a,S,ty,a',ty',h,hu,hb,ha=>by
   simp only [decL] at h
   cases hc:chunk (x::r) with
   | none=>rw [hc] at h;cases h
   | some c =>
     rw [hc] at h
     simp only at h
     have hl:=u7 hc
     have cu:=z3b hu hc
     split at h
     ·cases h
     ·split at h
      ·have:=z1w inner f c.rest a _ _ _ _ h cu.2.1 (by omega) ha
       exact ⟨this.1,by omega⟩
      ·cases hs:stepA c a with
       | error n=>rw [hs] at h;cases h
       | ok a2 =>
         rw [hs] at h
         have:=z1w inner f c.rest a2 _ _ _ _ h cu.2.1 (by omega) (z14 hs ha (by omega))
         refine ⟨this.1,?_⟩
         have h2:=this.2
         simp only [List.length_append,List.length_singleton] at h2
         omega
theorem z7d (inner:Bool) {B:List Int} (hu:U8s B) (hB:B.length≤1000000):∃ (A:At) (T:List Int) (p q:Int) (M:List Int),A.ok∧T.length≤1000000∧outD (decA inner B) = .tup [.agg A.c,.sl 1 (T.map cI),.agg [.int .i64 p,.int .i64 q,.sl 1 (M.map cB)]]:=by
 unfold decA
 cases h:decL inner B.length B zeroAt [] [] with
 | error n=>exact ⟨zeroAt,[],3,n.1,n.2,z09,by simp,rfl⟩
 | ok x =>
   obtain ⟨a,ty⟩:=x
   have:=z1w inner _ _ _ _ _ _ _ h hu hB z09
   exact ⟨canonA a,ty.mergeSort leI,0,0,[],qr this.1,by have:=this.2;simp only [List.length_mergeSort];simp at this;omega,rfl⟩
end Go.Am
namespace Go.Am
open Go.Proofs Go.Sort
theorem s30 {σ:Store} {B:List Int} {v:AV} (hr:Rd 1 σ (B.map cB) v) (n:Nat):ACalls Tryz.prog 30 [v,.int .i64 (n:Int)] σ (fun r s=>s=σ∧Rd 1 σ ((B.take n).map cB) r):=by
 refine ze Tst.F30 (by simp [Tst.F30,Fn.mkX]) ?_
 simp only [Tst.F30,Fn.mkX,Tst.b30]
 have hlen:pv .len [v]=some (.int .i64 (B.length:Int)):=by rw [hr.2];simp
 have hvt:=hr.isTup
 simp only [hlen,↓vcPre,↓z8,↓reduceIte,vcPost,vcStd,Nat.reduceEqDiff,reduceCtorEq,Nat.reduceAdd,Nat.reduceLeDiff,Int.reduceLT,Int.reduceLE,↓u_setN]
 refine ⟨fun c1 => ?_,fun c1 => ?_⟩
 ·obtain ⟨w,hw,hrw⟩:=hr.slice (lo:=0) (hi:=n) (by omega) (by simp;omega)
  have hw':pSlice 1 v 0 (some (n:Int))=some w:=hw
  simp only [hw',↓vcPre,↓z8,↓reduceIte,vcPost,vcStd,Nat.reduceEqDiff,reduceCtorEq,Nat.reduceAdd,Nat.reduceLeDiff,Int.reduceLT,Int.reduceLE,↓u_setN]
  exact EndQ.to σ w rfl (Store.sub_refl _) ⟨rfl,by rw [List.drop_zero,←List.map_take] at hrw;exact hrw⟩
 ·exact EndQ.to σ v rfl (Store.sub_refl _) ⟨rfl,by rw [List.take_of_length_le (by omega)];exact hr⟩
end Go.Am
namespace Go.Am
open Go.Proofs Go.Sort
theorem z4w (l:List Int):U8s (encW l):=by
 intro x hx
 simp only [encW,List.mem_flatMap] at hx
 obtain ⟨n,_,h⟩:=hx
 exact z16 n x h
theorem z5t (l:List Seg):U8s (encPath l):=by
 intro x hx
 simp only [encPath,List.mem_flatMap] at hx
 obtain ⟨s,_,h⟩:=hx
 simp only [encSeg,List.mem_append,List.mem_cons,List.not_mem_nil,or_false] at h
 rcases h with (rfl | rfl) | h
 ·omega
 ·omega
 ·exact z4w _ x h
theorem wh {fl k:Int} {v:List Int} (h1:0≤fl∧fl<240) (h2:0≤k∧k<256) (h3:U8s v):U8s (oneA fl k v):=by
 intro x hx
 unfold oneA at hx
 rcases List.mem_append.1 hx with h | h
 ·split at h
  ·simp only [List.mem_cons,List.not_mem_nil,or_false] at h;omega
  ·simp only [List.mem_cons,List.not_mem_nil,or_false] at h;omega
 ·exact h3 x h
theorem zar (a:At):U8s (encA a):=by
 have e1:U8s (oneA 64 1 [a.org % 256]):=wh (by omega) (by omega) fun x hx=>by simp only [List.mem_singleton] at hx;omega
 have e2:=wh (fl:=64) (k:=2) (by omega) (by omega) (z5t a.path)
 have e3:=wh (fl:=64) (k:=3) (by omega) (by omega) (z16 a.nxt)
 have e4:U8s (if a.hm then oneA 128 4 (b4 a.med) else []):=by
  split
  ·exact wh (by omega) (by omega) (z16 _)
  ·intro x hx;simp at hx
 have e5:U8s (if a.hp then oneA 64 5 (b4 a.prf) else []):=by
  split
  ·exact wh (by omega) (by omega) (z16 _)
  ·intro x hx;simp at hx
 have e6:U8s (if a.atm then oneA 64 6 [] else []):=by
  split
  ·exact wh (by omega) (by omega) fun x hx=>by simp at hx
  ·intro x hx;simp at hx
 have e8:U8s (if a.cms=[] then [] else oneA 192 8 (encW a.cms)):=by
  split
  ·intro x hx;simp at hx
  ·exact wh (by omega) (by omega) (z4w _)
 unfold encA
 exact (((((e1.append e2).append e3).append e4).append e5).append e6).append e8
end Go.Am
namespace Go.Am
open Go.Proofs Go.Sort
theorem z5h:[AV.int .i64 0,.nils,.int .u32 0,.bool false,.int .u32 0,.bool false,.int .u32 0,.bool false,.nils]=zC:=rfl
theorem z0h:[AV.int .i64 0,.int .i64 0,.nils]=zN:=rfl
end Go.Am
namespace Go.Am
open Go.Proofs Go.Sort
def upC (wv:AV) (has:Bool) (a:At) (nv:AV):List AV:=wv :: .bool has::(a.c++[nv])
def Apart (v w:AV):Prop:=∀ g a b,v = .os g 2 0 a→w ≠ .os g 2 0 b
end Go.Am
namespace Go.Am
open Go.Proofs Go.Sort
def OwnW (σ:Store) (W:List (Int×Int)) (wv:AV) (N:List (Int×Int)) (nv:AV) (s:Store):Prop:=Own 2 σ (W.map pxC) wv s∧Own 2 σ (N.map pxC) nv s∧Apart wv nv
end Go.Am
namespace Go.Am
open Go.Proofs Go.Sort
def cutU (B:List Int):Option (List Int×List Int×List Int):=match B with
 | h::l::r=>if (r.length:Int)<h*256+l then none else match r.drop (h*256+l).toNat with
   | h2::l2::r2=>if (r2.length:Int)<h2*256+l2 then none else some (r.take (h*256+l).toNat,r2.take (h2*256+l2).toNat,r2.drop (h2*256+l2).toNat)
   | _=>none
 | _=>none
def chainU (B:List Int):List Int×List Int×List Int×Bool :=
 let a:=numM 2 B false
 let b:=rawM a.1 a.2.1 a.2.2
 let c:=numM 2 b.2.1 b.2.2
 let d:=rawM c.1 c.2.1 c.2.2
 (b.1,d.1,d.2.1,d.2.2)
theorem z2n {n:Int} {R:List Int} (h:(R.length:Int)<n):rawM n R false=([],R,true):=by
 unfold rawM;rw [if_pos (by right;omega)]
theorem z5o {B:List Int} (hu:U8s B):(cutU B=none∧(chainU B).2.2.2=true)∨∃ g a r,cutU B=some (g,a,r)∧chainU B=(g,a,r,false):=by
 match B,hu with
 | [],_=>left;exact ⟨rfl,by simp only [chainU];rw [uq (by simp)];simp only;rw [xq];simp only;rw [z1g];simp only;rw [xq]⟩
 | [x],_=>left;exact ⟨rfl,by simp only [chainU];rw [uq (by simp)];simp only;rw [xq];simp only;rw [z1g];simp only;rw [xq]⟩
 | h::l::r,hu =>
   have hh:=hu h (by simp)
   have hl:=hu l (by simp)
   simp only [chainU,cutU]
   rw [z31]
   simp only
   by_cases c:(r.length:Int)<h*256+l
   ·left
    rw [if_pos c,z2n c];simp only;rw [z1g];simp only;rw [xq]
    exact ⟨trivial,rfl⟩
   ·rw [if_neg c,xt (by omega) c]
    simp only
    have hu2:U8s (r.drop (h*256+l).toNat):=fun x hx=>hu x (by simp [List.mem_of_mem_drop hx])
    generalize r.drop (h*256+l).toNat=r1 at hu2 ⊢
    match r1,hu2 with
    | [],_=>left;rw [uq (by simp)];simp only;rw [xq];exact ⟨trivial,rfl⟩
    | [x],_=>left;rw [uq (by simp)];simp only;rw [xq];exact ⟨trivial,rfl⟩
    | h2::l2::r2,hu2 =>
      have hh2:=hu2 h2 (by simp)
      have hl2:=hu2 l2 (by simp)
      rw [z31]
      simp only
      by_cases c2:(r2.length:Int)<h2*256+l2
      ·left;rw [if_pos c2,z2n c2];exact ⟨rfl,rfl⟩
      ·right
       rw [if_neg c2,xt (by omega) c2]
       exact ⟨_,_,_,rfl,rfl⟩
structure Up where
 w:List (Int×Int)
 has:Bool
 a:At
 n:List (Int×Int)
def zeroUp:Up:=⟨[],false,zeroAt,[]⟩
def Up.c (u:Up):List AV:=upC (.sl 2 (u.w.map pxC)) u.has u.a (.sl 2 (u.n.map pxC))
def decU (inner:Bool) (B:List Int):Except Nt Up:=match cutU B with
 | none => .error (1,[])
 | some (g,a,r)=>match dN g with
   | none => .error (10,[])
   | some w=>match decA inner a with
     | .error n => .error n
     | .ok (at_,ty)=>match dN r with
       | none => .error (10,[])
       | some n=>if n=[] then .ok ⟨w,false,zeroAt,[]⟩ else if lacksF ty inner=0 then .ok ⟨w,true,at_,n⟩ else .error (3,[lacksF ty inner])
def outU (x:Except Nt Up):AV:=match x with
 | .ok u => .tup [.agg u.c,.agg [.int .i64 0,.int .i64 0,.sl 1 []]]
 | .error n => .tup [.agg zeroUp.c,.agg [.int .i64 3,.int .i64 n.1,.sl 1 (n.2.map cB)]]
def zU:List AV:=[.nils,.bool false,.int .i64 0,.nils,.int .u32 0,.bool false,.int .u32 0,.bool false,.int .u32 0,.bool false,.nils,.nils]
theorem wi:[AV.nils,.bool false,.int .i64 0,.nils,.int .u32 0,.bool false,.int .u32 0,.bool false,.int .u32 0,.bool false,.nils,.nils]=zU:=rfl
theorem z8r:ImpL zU zeroUp.c :=
 show ImpL (AV.nils :: .bool false::(zC++[.nils])) (AV.sl 2 [] :: .bool false::(zeroAt.c++[.sl 2 []])) from .cons .nils (.cons (.refl rfl) (zC_imp.append (.cons .nils .nil)))
theorem z3o (ty:List Int) (inner:Bool):0≤lacksF ty inner∧lacksF ty inner≤5:=by
 unfold lacksF
 cases h:(mustF inner).find? (fun k => !decide (k ∈ ty)) with
 | none=>simp
 | some x =>
   have:=List.mem_of_find?_eq_some h
   unfold mustF at this
   cases inner <;> simp at this <;> simp <;> omega
set_option maxHeartbeats 2000000 in
theorem zil {σ:Store} {B:List Int} {v:AV} (hr:Rd 1 σ (B.map cB) v) (hB:B.length≤1000000) (hu:U8s B) (inner:Bool):ACalls Tryz.prog 161 [v,.bool inner] σ (fun r s=>s=σ∧r=outU (decU inner B)):=by
 refine ze Ts2.F161 (by simp [Ts2.F161,Fn.mkX]) ?_
 simp only [Ts2.F161,Fn.mkX,Ts2.b161,wi,z0h]
 simp only [↓vcPre,↓z8,↓reduceIte,vcPost,vcStd,Nat.reduceEqDiff,reduceCtorEq,Nat.reduceAdd,Nat.reduceLeDiff,Int.reduceLT,Int.reduceLE,↓u_setN]
 refine AllocQ.i0 fun p4 h4 => ?_
 simp only [↓vcPre,↓z8,↓reduceIte,vcPost,vcStd,Nat.reduceEqDiff,reduceCtorEq,Nat.reduceAdd,Nat.reduceLeDiff,Int.reduceLT,Int.reduceLE,↓u_setN]
 refine AllocQ.i1 fun p5 h54 h45 h5 => ?_
 simp only [↓vcPre,↓z8,↓reduceIte,vcPost,vcStd,Nat.reduceEqDiff,reduceCtorEq,Nat.reduceAdd,Nat.reduceLeDiff,Int.reduceLT,Int.reduceLE,↓u_setN]
 have hU:=y0 (o := .box zU) (p := .box zN) h4 h5 h54
 have U5:((σ.set p4 (.box zU)).set p5 (.box zN)) p5=some (.box zN):=Store.set_same _ _ _
 have U4:((σ.set p4 (.box zU)).set p5 (.box zN)) p4=some (.box zU):=by rw [Store.set_ne _ _ h45];exact Store.set_same _ _ _
 generalize (σ.set p4 (.box zU)).set p5 (.box zN)=U at hU U4 U5 ⊢
 refine (z22 (hr.mono hU) (by omega)).Q ?_
 rintro r s ⟨id,rfl,h⟩
 simp only [↓vcPre,↓z8,↓reduceIte,vcPost,vcStd,Nat.reduceEqDiff,reduceCtorEq,Nat.reduceAdd,Nat.reduceLeDiff,Int.reduceLT,Int.reduceLE,↓u_setN]
 refine (z40 h (by omega) hu).Q ?_
 rintro r s1 ⟨rfl,k1⟩
 have b1:=yu (k:=2) (b:=false) hu
 simp only [↓vcPre,↓z8,↓reduceIte,vcPost,vcStd,Nat.reduceEqDiff,reduceCtorEq,Nat.reduceAdd,Nat.reduceLeDiff,Int.reduceLT,Int.reduceLE,↓u_setN]
 refine (z23 k1 (by omega) _).Q ?_
 rintro r s2 ⟨rfl,k2⟩
 have b2:=vo (n:=(numM 2 B false).1) (bad:=(numM 2 B false).2.2) b1.1
 have b2l:=rawM_len (n:=(numM 2 B false).1) (R:=(numM 2 B false).2.1) (bad:=(numM 2 B false).2.2)
 simp only [↓vcPre,↓z8,↓reduceIte,vcPost,vcStd,Nat.reduceEqDiff,reduceCtorEq,Nat.reduceAdd,Nat.reduceLeDiff,Int.reduceLT,Int.reduceLE,↓u_setN]
 refine (z40 k2 (by omega) b2.2).Q ?_
 rintro r s3 ⟨rfl,k3⟩
 simp only [↓vcPre,↓z8,↓reduceIte,vcPost,vcStd,Nat.reduceEqDiff,reduceCtorEq,Nat.reduceAdd,Nat.reduceLeDiff,Int.reduceLT,Int.reduceLE,↓u_setN]
 refine (z23 k3 (by have:=(yu (k:=2) (b:=(rawM (numM 2 B false).1 (numM 2 B false).2.1 (numM 2 B false).2.2).2.2) b2.2).2;omega) _).Q ?_
 rintro r s4 ⟨rfl,k4⟩
 obtain ⟨g,hg⟩:∃ x,x=(rawM (numM 2 B false).1 (numM 2 B false).2.1 (numM 2 B false).2.2):=⟨_,rfl⟩
 rw [←hg] at k4 b2 b2l ⊢
 have b3:=yu (k:=2) (b:=g.2.2) b2.2
 have b4:=vo (n:=(numM 2 g.2.1 g.2.2).1) (bad:=(numM 2 g.2.1 g.2.2).2.2) b3.1
 have b4l:=rawM_len (n:=(numM 2 g.2.1 g.2.2).1) (R:=(numM 2 g.2.1 g.2.2).2.1) (bad:=(numM 2 g.2.1 g.2.2).2.2)
 obtain ⟨a,ha⟩:∃ x,x=rawM (numM 2 g.2.1 g.2.2).1 (numM 2 g.2.1 g.2.2).2.1 (numM 2 g.2.1 g.2.2).2.2:=⟨_,rfl⟩
 rw [←ha] at k4 b4 b4l ⊢
 have hch:chainU B=(g.1,a.1,a.2.1,a.2.2):=by simp only [chainU,←hg,←ha]
 simp only [↓vcPre,↓z8,↓reduceIte,vcPost,vcStd,Nat.reduceEqDiff,reduceCtorEq,Nat.reduceAdd,Nat.reduceLeDiff,Int.reduceLT,Int.reduceLE,↓u_setN]
 refine (z12 k4).Q ?_
 rintro r s5 ⟨rfl,rfl⟩
 simp only [↓vcPre,↓z8,↓reduceIte,vcPost,vcStd,Nat.reduceEqDiff,reduceCtorEq,Nat.reduceAdd,Nat.reduceLeDiff,Int.reduceLT,Int.reduceLE,↓u_setN]
 refine (z23 k4 (by omega) _).Q ?_
 rintro r s6 ⟨rfl,k6⟩
 simp only [↓vcPre,↓z8,↓reduceIte,vcPost,vcStd,Nat.reduceEqDiff,reduceCtorEq,Nat.reduceAdd,Nat.reduceLeDiff,Int.reduceLT,Int.reduceLE,↓u_setN]
 refine (z69 k6).Q ?_
 rintro r s7 ⟨rfl,rfl⟩
 simp only [↓vcPre,↓z8,↓reduceIte,vcPost,vcStd,Nat.reduceEqDiff,reduceCtorEq,Nat.reduceAdd,Nat.reduceLeDiff,Int.reduceLT,Int.reduceLE,↓u_setN]
 have hs7:Store.sub σ s7:=Store.sub_trans hU k6.2.1
 have S4:=k6.2.1 _ _ U4
 have S5:=k6.2.1 _ _ U5
 have zl:zU.length=12:=rfl
 have zt:List.take 12 zU=zU:=rfl
 have szz:splice 0 zU zU=some zU:=rfl
 have szn:∀ x y z:AV,splice 0 [x,y,z] zN=some [x,y,z]:=fun _ _ _=>rfl
 have fin:∀ (T:Store) (cs ns:List AV),cs.length=12→ns.length=3→T p4=some (.box cs)→T p5=some (.box ns)→WeakL [.agg cs,.agg ns] T (fun l t=>t=σ ∧ .tup l=outU (decU inner B)) →
  @EndQ [(4,.ptr p4 0),(5,.ptr p5 0)] T ⟨Ts2.F161.slots,fun r s=>s=σ∧r=outU (decU inner B)⟩:=by
  intro T cs ns l1 l2 f4 f5 hW
  unfold EndQ
  refine ⟨.tup [.agg cs,.agg ns],?_,Weak.tup hW⟩
  show Env.res [(4,AV.ptr p4 0),(5,AV.ptr p5 0)] T [RS.c 4 12 true,RS.c 5 3 true]=_
  have e1:List.take 12 cs=cs:=List.take_of_length_le (by omega)
  have e2:List.take 3 ns=ns:=List.take_of_length_le (by omega)
  simp only [f4,f5,l1,l2,e1,e2,↓vcPre,↓z8,↓reduceIte,vcPost,vcStd,Nat.reduceEqDiff,reduceCtorEq,Nat.reduceAdd,Nat.reduceLeDiff,Int.reduceLT,Int.reduceLE,↓u_setN]
 have bad:∀ (T:Store) (n:Nt) (v:AV),Store.sub σ T→Imp v (.sl 1 (n.2.map cB))→decU inner B = .error n →
  @EndQ [(4,.ptr p4 0),(5,.ptr p5 0)] ((T.set p4 (.box zU)).set p5 (.box [.int .i64 3,.int .i64 n.1,v])) ⟨Ts2.F161.slots,fun r s=>s=σ∧r=outU (decU inner B)⟩:=by
  intro T n v hT hv hd
  refine fin _ zU [.int .i64 3,.int .i64 n.1,v] rfl rfl (by rw [Store.set_ne _ _ h45];exact Store.set_same _ _ _) (Store.set_same _ _ _) ?_
  refine WeakL.pos 0 rfl (Imp.agg z8r (WeakL.pos 1 rfl (Imp.agg (ds:=[.int .i64 3,.int .i64 n.1,.sl 1 (n.2.map cB)]) (.cons (.refl rfl) (.cons (.refl rfl) (.cons hv .nil))) (WeakL.forget (zb (zb hT h4) h5) (WeakL.pure ⟨rfl,?_⟩)))))
  simp only [List.set,hd,outU]
 rcases z5o hu with ⟨hc,hb⟩ | ⟨G,A,R,hc,hb⟩
 ·rw [hch] at hb
  simp only at hb
  have hd:decU inner B = .error (1,[]):=by unfold decU;rw [hc]
  rw [hb,xq]
  simp only [↓vcPre,↓z8,↓reduceIte,vcPost,vcStd,Nat.reduceEqDiff,reduceCtorEq,Nat.reduceAdd,Nat.reduceLeDiff,Int.reduceLT,Int.reduceLE,↓u_setN]
  refine (z5j 1 .nils ⟨rfl,rfl⟩).Q ?_
  simp only [S4,S5,h54,h45,zl,szz,szn,↓vcPre,↓z8,↓reduceIte,vcPost,vcStd,Nat.reduceEqDiff,reduceCtorEq,Nat.reduceAdd,Nat.reduceLeDiff,Int.reduceLT,Int.reduceLE,↓u_setN]
  exact bad s7 (1,[]) .nils hs7 .nils hd
 ·rw [hch] at hb
  obtain ⟨rfl,rfl,rfl,hbb⟩:G=g.1∧A=a.1∧R=a.2.1∧a.2.2=false:=by
   simp only [Prod.mk.injEq] at hb
   exact ⟨hb.1.symm,hb.2.1.symm,hb.2.2.1.symm,hb.2.2.2⟩
  rw [hbb]
  have hfit:=xt (n:=(a.2.1.length:Int)) (R:=a.2.1) (by omega) (by omega)
  rw [Int.toNat_natCast,List.take_length] at hfit
  simp only [Bool.false_eq_true,if_false]
  rw [hfit]
  simp only [Ts2.t161_10,wi]
  clear hfit hb hch
  have lG:g.1.length≤1000000:=by omega
  have lA:a.1.length≤1000000:=by omega
  have lR:a.2.1.length≤1000000:=by omega
  have uG:=b2.1
  have uA:=b4.1
  have uR:=b4.2
  generalize g.1=G at lG uG hc ⊢
  generalize a.1=A at lA uA hc ⊢
  generalize a.2.1=R at lR uR hc ⊢
  have hd:decU inner B=match dN G with
   | none => .error (10,[])
   | some w=>match decA inner A with
     | .error n => .error n
     | .ok (at_,ty)=>match dN R with
       | none => .error (10,[])
       | some n=>if n=[] then .ok ⟨w,false,zeroAt,[]⟩ else if lacksF ty inner=0 then .ok ⟨w,true,at_,n⟩ else .error (3,[lacksF ty inner]):=by
   unfold decU;rw [hc];try rfl
  clear hc
  simp only [↓vcPre,↓z8,↓reduceIte,vcPost,vcStd,Nat.reduceEqDiff,reduceCtorEq,Nat.reduceAdd,Nat.reduceLeDiff,Int.reduceLT,Int.reduceLE,↓u_setN]
  refine AllocQ.i0 fun q hq => ?_
  simp only [↓vcPre,↓z8,↓reduceIte,vcPost,vcStd,Nat.reduceEqDiff,reduceCtorEq,Nat.reduceAdd,Nat.reduceLeDiff,Int.reduceLT,Int.reduceLE,↓u_setN]
  have hsq:=Store.sub_set s7 q (.box zU) hq
  have hq4:¬ p4=q:=fun e=>by rw [e,hq] at S4;cases S4
  have hq5:¬ p5=q:=fun e=>by rw [e,hq] at S5;cases S5
  refine (zdq (σ:=s7.set q (.box zU)) (B:=G) Rd.sl lG uG).Q ?_
  rintro r T ⟨rfl,rfl⟩
  have hσq:σ q=none:=zo hs7 hq
  cases hG:dN G with
  | none =>
    rw [hG] at hd
    simp only at hd
    simp only [outN,List.map_nil]
    have sp0:splice 0 [AV.sl 2 []] zU=some (AV.sl 2 []::zU.drop 1):=rfl
    simp only [zl,sp0,↓vcPre,↓z8,↓reduceIte,vcPost,vcStd,Nat.reduceEqDiff,reduceCtorEq,Nat.reduceAdd,Nat.reduceLeDiff,Int.reduceLT,Int.reduceLE,↓u_setN]
    refine (z5j 10 .nils ⟨rfl,rfl⟩).Q ?_
    have T4:((s7.set q (.box zU)).set q (.box (AV.sl 2 []::zU.drop 1))) p4=some (.box zU):=by rw [Store.set_ne _ _ hq4,Store.set_ne _ _ hq4];exact S4
    have T5:((s7.set q (.box zU)).set q (.box (AV.sl 2 []::zU.drop 1))) p5=some (.box zN):=by rw [Store.set_ne _ _ hq5,Store.set_ne _ _ hq5];exact S5
    have hT:Store.sub σ ((s7.set q (.box zU)).set q (.box (AV.sl 2 []::zU.drop 1))):=zb (zb hs7 hσq) hσq
    generalize ((s7.set q (.box zU)).set q (.box (AV.sl 2 []::zU.drop 1)))=T at T4 T5 hT ⊢
    simp only [T4,T5,h54,h45,zl,szz,szn,↓vcPre,↓z8,↓reduceIte,vcPost,vcStd,Nat.reduceEqDiff,reduceCtorEq,Nat.reduceAdd,Nat.reduceLeDiff,Int.reduceLT,Int.reduceLE,↓u_setN]
    exact bad T (10,[]) .nils hT .nils hd
  | some w =>
    rw [hG] at hd
    simp only at hd
    simp only [outN]
    have sp0:∀ v,splice 0 [v] zU=some (v::zU.drop 1):=fun _=>rfl
    simp only [zl,sp0,↓vcPre,↓z8,↓reduceIte,vcPost,vcStd,Nat.reduceEqDiff,reduceCtorEq,Nat.reduceAdd,Nat.reduceLeDiff,Int.reduceLT,Int.reduceLE,↓u_setN]
    have T4:((s7.set q (.box zU)).set q (.box (AV.sl 2 (w.map pxC)::zU.drop 1))) p4=some (.box zU):=by rw [Store.set_ne _ _ hq4,Store.set_ne _ _ hq4];exact S4
    have T5:((s7.set q (.box zU)).set q (.box (AV.sl 2 (w.map pxC)::zU.drop 1))) p5=some (.box zN):=by rw [Store.set_ne _ _ hq5,Store.set_ne _ _ hq5];exact S5
    have Tq:((s7.set q (.box zU)).set q (.box (AV.sl 2 (w.map pxC)::zU.drop 1))) q=some (.box (AV.sl 2 (w.map pxC)::zU.drop 1)):=Store.set_same _ _ _
    have hT:Store.sub σ ((s7.set q (.box zU)).set q (.box (AV.sl 2 (w.map pxC)::zU.drop 1))):=zb (zb hs7 hσq) hσq
    generalize ((s7.set q (.box zU)).set q (.box (AV.sl 2 (w.map pxC)::zU.drop 1)))=T at T4 T5 Tq hT ⊢
    simp only [Ts2.t161_46,z5h,z0h,wi]
    have e9:∀ x:At,x.c.length=9:=fun _=>rfl
    have t9:∀ x:At,List.take 9 x.c=x.c:=fun _=>rfl
    have spZ:∀ x:At,splice 0 x.c zC=some x.c:=fun _=>rfl
    simp only [↓vcPre,↓z8,↓reduceIte,vcPost,vcStd,Nat.reduceEqDiff,reduceCtorEq,Nat.reduceAdd,Nat.reduceLeDiff,Int.reduceLT,Int.reduceLE,↓u_setN]
    refine (zin (σ:=T) (B:=A) Rd.sl lA uA inner).Q ?_
    rintro r X ⟨rfl,rfl⟩
    cases hA:decA inner A with
    | error n =>
      rw [hA] at hd
      simp only at hd
      simp only [outD,List.map_nil]
      simp only [↓vcPre,↓z8,↓reduceIte,vcPost,vcStd,Nat.reduceEqDiff,reduceCtorEq,Nat.reduceAdd,Nat.reduceLeDiff,Int.reduceLT,Int.reduceLE,↓u_setN]
      refine AllocQ.i0 fun p12 h12 => ?_
      simp only [↓vcPre,↓z8,↓reduceIte,vcPost,vcStd,Nat.reduceEqDiff,reduceCtorEq,Nat.reduceAdd,Nat.reduceLeDiff,Int.reduceLT,Int.reduceLE,↓u_setN]
      refine AllocQ.i1 fun p14 h1412 h1214 h14 => ?_
      have n4a:¬ p4=p12:=fun e=>by rw [e,h12] at T4;cases T4
      have n4b:¬ p4=p14:=fun e=>by rw [e,h14] at T4;cases T4
      have n5a:¬ p5=p12:=fun e=>by rw [e,h12] at T5;cases T5
      have n5b:¬ p5=p14:=fun e=>by rw [e,h14] at T5;cases T5
      simp only [h1412,h1214,e9,spZ,szn,↓vcPre,↓z8,↓reduceIte,vcPost,vcStd,Nat.reduceEqDiff,reduceCtorEq,Nat.reduceAdd,Nat.reduceLeDiff,Int.reduceLT,Int.reduceLE,↓u_setN]
      have sV:Store.sub X ((((X.set p12 (.box zC)).set p14 (.box zN)).set p12 (.box zeroAt.c)).set p14 (.box [.int .i64 3,.int .i64 n.1,.sl 1 (n.2.map cB)])):=zb (zb (y0 h12 h14 h1412) h12) h14
      have V14:((((X.set p12 (.box zC)).set p14 (.box zN)).set p12 (.box zeroAt.c)).set p14 (.box [.int .i64 3,.int .i64 n.1,.sl 1 (n.2.map cB)])) p14=some (.box [.int .i64 3,.int .i64 n.1,.sl 1 (n.2.map cB)]):=Store.set_same _ _ _
      have V4:((((X.set p12 (.box zC)).set p14 (.box zN)).set p12 (.box zeroAt.c)).set p14 (.box [.int .i64 3,.int .i64 n.1,.sl 1 (n.2.map cB)])) p4=some (.box zU):=sV _ _ T4
      have V5:=sV _ _ T5
      generalize ((((X.set p12 (.box zC)).set p14 (.box zN)).set p12 (.box zeroAt.c)).set p14 (.box [.int .i64 3,.int .i64 n.1,.sl 1 (n.2.map cB)]))=V at sV V14 V4 V5 ⊢
      have n14:¬ p14=p4:=fun e=>n4b e.symm
      simp only [V14,V4,V5,h54,h45,zl,szz,szn,n14,↓vcPre,↓z8,↓reduceIte,vcPost,vcStd,Nat.reduceEqDiff,reduceCtorEq,Nat.reduceAdd,Nat.reduceLeDiff,Int.reduceLT,Int.reduceLE,↓u_setN]
      have E:=bad V n (.sl 1 (n.2.map cB)) (Store.sub_trans hT sV) (.refl rfl) hd
      exact ⟨fun _=>⟨E,E⟩,fun h=>absurd h (by decide)⟩
    | ok x =>
      obtain ⟨a',ty⟩:=x
      rw [hA] at hd
      simp only at hd
      have hty:ty.length≤1000000:=by
       obtain ⟨A',T',p,q',M,h1,h2,h3⟩:=z7d inner uA lA
       rw [hA] at h3
       simp only [outD,AV.tup.injEq,List.cons.injEq,AV.sl.injEq,true_and] at h3
       have:=congrArg List.length h3.2.1
       simp only [List.length_map] at this
       omega
      simp only [outD,List.map_nil]
      simp only [↓vcPre,↓z8,↓reduceIte,vcPost,vcStd,Nat.reduceEqDiff,reduceCtorEq,Nat.reduceAdd,Nat.reduceLeDiff,Int.reduceLT,Int.reduceLE,↓u_setN]
      refine AllocQ.i0 fun p12 h12 => ?_
      simp only [↓vcPre,↓z8,↓reduceIte,vcPost,vcStd,Nat.reduceEqDiff,reduceCtorEq,Nat.reduceAdd,Nat.reduceLeDiff,Int.reduceLT,Int.reduceLE,↓u_setN]
      refine AllocQ.i1 fun p14 h1412 h1214 h14 => ?_
      simp only [h1412,h1214,e9,spZ,szn,↓vcPre,↓z8,↓reduceIte,vcPost,vcStd,Nat.reduceEqDiff,reduceCtorEq,Nat.reduceAdd,Nat.reduceLeDiff,Int.reduceLT,Int.reduceLE,↓u_setN]
      have sV:Store.sub X ((((X.set p12 (.box zC)).set p14 (.box zN)).set p12 (.box a'.c)).set p14 (.box [.int .i64 0,.int .i64 0,.sl 1 []])):=zb (zb (y0 h12 h14 h1412) h12) h14
      have V14:((((X.set p12 (.box zC)).set p14 (.box zN)).set p12 (.box a'.c)).set p14 (.box [.int .i64 0,.int .i64 0,.sl 1 []])) p14=some (.box [.int .i64 0,.int .i64 0,.sl 1 []]):=Store.set_same _ _ _
      have V12:((((X.set p12 (.box zC)).set p14 (.box zN)).set p12 (.box a'.c)).set p14 (.box [.int .i64 0,.int .i64 0,.sl 1 []])) p12=some (.box a'.c):=by rw [Store.set_ne _ _ h1214];exact Store.set_same _ _ _
      have V4:=sV _ _ T4
      have V5:=sV _ _ T5
      have Vq:=sV _ _ Tq
      have hqX:¬ p12=q:=fun e=>by rw [e,Tq] at h12;cases h12
      generalize ((((X.set p12 (.box zC)).set p14 (.box zN)).set p12 (.box a'.c)).set p14 (.box [.int .i64 0,.int .i64 0,.sl 1 []]))=V at sV V14 V12 V4 V5 Vq ⊢
      have hσV:=Store.sub_trans hT sV
      simp only [Ts2.t161_58,wi]
      simp only [↓vcPre,↓z8,↓reduceIte,vcPost,vcStd,Nat.reduceEqDiff,reduceCtorEq,Nat.reduceAdd,Nat.reduceLeDiff,Int.reduceLT,Int.reduceLE,↓u_setN]
      refine (zdq (σ:=V) (B:=R) Rd.sl lR uR).Q ?_
      rintro r W ⟨rfl,rfl⟩
      have sp11:∀ v u,splice 11 [v] (u::zU.drop 1)=some (upC u false zeroAt v |> fun _=>u :: .bool false::(zC++[v])):=fun _ _=>rfl
      cases hR:dN R with
      | none =>
        rw [hR] at hd
        simp only at hd
        simp only [outN,List.map_nil]
        simp only [Vq,zl,sp11,↓vcPre,↓z8,↓reduceIte,vcPost,vcStd,Nat.reduceEqDiff,reduceCtorEq,Nat.reduceAdd,Nat.reduceLeDiff,Int.reduceLT,Int.reduceLE,↓u_setN]
        refine (z5j 10 .nils ⟨rfl,rfl⟩).Q ?_
        have W4:=(Store.set_ne W (.box (AV.sl 2 (w.map pxC) :: .bool false::(zC++[.sl 2 []]))) hq4).trans V4
        have W5:=(Store.set_ne W (.box (AV.sl 2 (w.map pxC) :: .bool false::(zC++[.sl 2 []]))) hq5).trans V5
        have hW:=zb (o := .box (AV.sl 2 (w.map pxC) :: .bool false::(zC++[.sl 2 []]))) hσV hσq
        generalize W.set q (.box (AV.sl 2 (w.map pxC) :: .bool false::(zC++[.sl 2 []])))=Y at W4 W5 hW ⊢
        simp only [W4,W5,h54,h45,zl,szz,szn,↓vcPre,↓z8,↓reduceIte,vcPost,vcStd,Nat.reduceEqDiff,reduceCtorEq,Nat.reduceAdd,Nat.reduceLeDiff,Int.reduceLT,Int.reduceLE,↓u_setN]
        exact bad Y (10,[]) .nils hW .nils hd
      | some nl =>
        rw [hR] at hd
        simp only at hd
        simp only [outN]
        simp only [Vq,zl,sp11,↓vcPre,↓z8,↓reduceIte,vcPost,vcStd,Nat.reduceEqDiff,reduceCtorEq,Nat.reduceAdd,Nat.reduceLeDiff,Int.reduceLT,Int.reduceLE,↓u_setN]
        have W4:=(Store.set_ne W (.box (AV.sl 2 (w.map pxC) :: .bool false::(zC++[.sl 2 (nl.map pxC)]))) hq4).trans V4
        have W5:=(Store.set_ne W (.box (AV.sl 2 (w.map pxC) :: .bool false::(zC++[.sl 2 (nl.map pxC)]))) hq5).trans V5
        have W12:=(Store.set_ne W (.box (AV.sl 2 (w.map pxC) :: .bool false::(zC++[.sl 2 (nl.map pxC)]))) hqX).trans V12
        have Wq:(W.set q (.box (AV.sl 2 (w.map pxC) :: .bool false::(zC++[.sl 2 (nl.map pxC)])))) q=some (.box (AV.sl 2 (w.map pxC) :: .bool false::(zC++[.sl 2 (nl.map pxC)]))):=Store.set_same _ _ _
        have hW:=zb (o := .box (AV.sl 2 (w.map pxC) :: .bool false::(zC++[.sl 2 (nl.map pxC)]))) hσV hσq
        generalize W.set q (.box (AV.sl 2 (w.map pxC) :: .bool false::(zC++[.sl 2 (nl.map pxC)])))=Y at W4 W5 W12 Wq hW ⊢
        simp only [Ts2.t161_67,wi,z0h]
        have q9:∀ (u:AV),List.take 1 (List.drop 9 (zC++[u]))=[u]:=fun _=>rfl
        have l10:∀ u:AV,List.take 10 (zC++[u])=zC++[u]:=fun _=>rfl
        have z10:∀ u:AV,(zC++[u]).length=10:=fun _=>rfl
        have s12:∀ l:List AV,l.length=12→splice 0 l zU=some l:=fun l h=>xl _ _ (by rw [h];rfl)
        have sA:=s12 (AV.sl 2 (w.map pxC) :: .bool false::(zC++[.sl 2 (nl.map pxC)])) rfl
        have zn:zN.length=3:=rfl
        have snn:splice 0 zN zN=some zN:=rfl
        have uC:∀ (b:Bool) (x:At),upC (.sl 2 (w.map pxC)) b x (.sl 2 (nl.map pxC))=(⟨w,b,x,nl⟩:Up).c:=fun _ _=>rfl
        simp only [Wq,q9,l10,z10,W4,W5,h54,h45,sA,zn,snn,↓vcPre,↓z8,↓reduceIte,vcPost,vcStd,Nat.reduceEqDiff,reduceCtorEq,Nat.reduceAdd,Nat.reduceLeDiff,Int.reduceLT,Int.reduceLE,↓u_setN]
        refine ⟨fun c1 => ?_,fun c1 => ?_⟩
        ·have hn0:nl=[]:=by cases nl with | nil=>rfl | cons x l=>simp at c1;omega
         rw [if_pos hn0] at hd
         refine fin _ (AV.sl 2 (w.map pxC) :: .bool false::(zC++[.sl 2 (nl.map pxC)])) zN rfl rfl (by rw [Store.set_ne _ _ h45];exact Store.set_same _ _ _) (Store.set_same _ _ _) ?_
         refine WeakL.pos 0 rfl (Imp.agg (ds:=(⟨w,false,zeroAt,[]⟩:Up).c) ?_ (WeakL.pos 1 rfl (Imp.agg (ds:=[.int .i64 0,.int .i64 0,.sl 1 []]) (.cons (.refl rfl) (.cons (.refl rfl) (.cons .nils .nil))) (WeakL.forget (zb (zb hW h4) h5) (WeakL.pure ⟨rfl,?_⟩)))))
         ·rw [hn0]
          exact show ImpL (AV.sl 2 (w.map pxC) :: .bool false::(zC++[.sl 2 []])) (AV.sl 2 (w.map pxC) :: .bool false::(zeroAt.c++[.sl 2 []])) from .cons (.refl rfl) (.cons (.refl rfl) (zC_imp.append (.cons (.refl rfl) .nil)))
         ·simp only [List.set,hd,outU]
        ·have hn0:nl≠[]:=fun e=>by rw [e] at c1;simp at c1
         rw [if_neg hn0] at hd
         simp only [Ts2.t161_73,wi]
         simp only [↓vcPre,↓z8,↓reduceIte,vcPost,vcStd,Nat.reduceEqDiff,reduceCtorEq,Nat.reduceAdd,Nat.reduceLeDiff,Int.reduceLT,Int.reduceLE,↓u_setN]
         refine (zhx ty hty inner).Q ?_
         simp only [↓vcPre,↓z8,↓reduceIte,vcPost,vcStd,Nat.reduceEqDiff,reduceCtorEq,Nat.reduceAdd,Nat.reduceLeDiff,Int.reduceLT,Int.reduceLE,↓u_setN]
         obtain ⟨g0,g5⟩:=z3o ty inner
         refine ⟨fun c2 => ?_,fun c2 => ?_⟩
         ·rw [if_neg (by omega)] at hd
          have w8:IntKind.u8.wrap (lacksF ty inner)=lacksF ty inner:=by simp [IntKind.wrap,IntKind.bits,IntKind.signed];omega
          refine AllocQ.i0 fun d hd' => ?_
          simp only [w8,↓vcPre,↓z8,↓reduceIte,vcPost,vcStd,Nat.reduceEqDiff,reduceCtorEq,Nat.reduceAdd,Nat.reduceLeDiff,Int.reduceLT,Int.reduceLE,↓u_setN]
          have hsd:=Store.sub_set Y d (.arr 1 [[.int .u8 (lacksF ty inner)]]) hd'
          have Dd:(Y.set d (.arr 1 [[.int .u8 (lacksF ty inner)]])) d=some (.arr 1 [[.int .u8 (lacksF ty inner)]]):=Store.set_same _ _ _
          have D4:=hsd _ _ W4
          have D5:=hsd _ _ W5
          have hσd:σ d=none:=zo hW hd'
          have hd4:¬ d=p4:=fun e=>by rw [e,W4] at hd';cases hd'
          have hd5:¬ d=p5:=fun e=>by rw [e,W5] at hd';cases hd'
          have hDs:=Store.sub_trans hW hsd
          generalize Y.set d (.arr 1 [[.int .u8 (lacksF ty inner)]])=D at Dd D4 D5 hDs ⊢
          refine (z5j 3 (.os d 1 0 1) ⟨rfl,rfl⟩).Q ?_
          simp only [D4,D5,h54,h45,zl,szz,szn,↓vcPre,↓z8,↓reduceIte,vcPost,vcStd,Nat.reduceEqDiff,reduceCtorEq,Nat.reduceAdd,Nat.reduceLeDiff,Int.reduceLT,Int.reduceLE,↓u_setN]
          refine fin _ zU [.int .i64 3,.int .i64 3,.os d 1 0 1] rfl rfl (by rw [Store.set_ne _ _ h45];exact Store.set_same _ _ _) (Store.set_same _ _ _) ?_
          have Ed:((D.set p4 (.box zU)).set p5 (.box [.int .i64 3,.int .i64 3,.os d 1 0 1])) d=some (.arr 1 [[.int .u8 (lacksF ty inner)]]):=by rw [Store.set_ne _ _ hd5,Store.set_ne _ _ hd4];exact Dd
          have hE:Store.sub σ ((D.set p4 (.box zU)).set p5 (.box [.int .i64 3,.int .i64 3,.os d 1 0 1])):=zb (zb hDs h4) h5
          generalize (D.set p4 (.box zU)).set p5 (.box [.int .i64 3,.int .i64 3,.os d 1 0 1])=E at Ed hE ⊢
          refine WeakL.pos 0 rfl (Imp.agg z8r (WeakL.pos 1 rfl (Weak.agg (WeakL.freeze 2 rfl Ed (by simp) (WeakL.pure ⟨?_,WeakL.forget (sub_del hE hσd) (WeakL.pure ⟨rfl,?_⟩)⟩)))))
          ·simp [AV.flat]
          ·simp only [List.set,hd,outU];rfl
         ·have e0:lacksF ty inner=0:=by omega
          rw [if_pos e0] at hd
          simp only [Ts2.t161_84,wi,z0h]
          have k1:∀ (v u:AV),splice 1 [.bool true] (v :: .bool false::(zC++[u]))=some (v :: .bool true::(zC++[u])):=fun _ _=>rfl
          have k2:∀ (v u:AV),splice 2 a'.c (v :: .bool true::(zC++[u]))=some (v :: .bool true::(a'.c++[u])):=fun _ _=>rfl
          have l10':∀ u:AV,List.take 10 (a'.c++[u])=a'.c++[u]:=fun _=>rfl
          have a10:∀ u:AV,(a'.c++[u]).length=10:=fun _=>rfl
          have sB:=s12 (AV.sl 2 (w.map pxC) :: .bool true::(a'.c++[.sl 2 (nl.map pxC)])) rfl
          simp only [W12,Wq,e9,t9,Nat.le_refl,k1,k2,l10',a10,hq4,hq5,hqX,W4,W5,h54,h45,sB,zn,snn,↓vcPre,↓z8,↓reduceIte,vcPost,vcStd,Nat.reduceEqDiff,reduceCtorEq,Nat.reduceAdd,Nat.reduceLeDiff,Int.reduceLT,Int.reduceLE,↓u_setN]
          have fini:∀ T:Store,T p4=some (.box (⟨w,true,a',nl⟩:Up).c)→T p5=some (.box zN)→Store.sub σ T → @EndQ [(4,.ptr p4 0),(5,.ptr p5 0)] T ⟨Ts2.F161.slots,fun r s=>s=σ∧r=outU (decU inner B)⟩:=by
           intro T f4 f5 hT'
           refine fin T _ zN rfl rfl f4 f5 ?_
           refine WeakL.pos 1 rfl (Imp.agg (ds:=[.int .i64 0,.int .i64 0,.sl 1 []]) (.cons (.refl rfl) (.cons (.refl rfl) (.cons .nils .nil))) (WeakL.forget hT' (WeakL.pure ⟨rfl,?_⟩)))
           simp only [List.set,hd,outU]
          have hf:=fini ((((Y.set q (.box (AV.sl 2 (w.map pxC) :: .bool true::(zC++[.sl 2 (nl.map pxC)])))).set q (.box (AV.sl 2 (w.map pxC) :: .bool true::(a'.c++[.sl 2 (nl.map pxC)])))).set p4 (.box (AV.sl 2 (w.map pxC) :: .bool true::(a'.c++[.sl 2 (nl.map pxC)])))).set p5 (.box zN)) (by rw [Store.set_ne _ _ h45];exact Store.set_same _ _ _) (Store.set_same _ _ _) (zb (zb (zb (zb hW hσq) hσq) h4) h5)
          first | exact ⟨hf,hf⟩ | exact hf
end Go.Am
namespace Go.Am
open Go.Proofs Go.Sort
structure Ses where
 asn:Int
 id:Int
 hold:Int
 peer:Int
 st:Int
 b:List Int
 theirs:Int
 time:Int
 silent:Int
 said:Int
def Ses.c (S:Ses) (bv ov hv:AV):List AV:=[.int .u32 S.asn,.int .u32 S.id,.int .i64 S.hold,.int .u32 S.peer,.int .i64 S.st,bv,.int .u32 S.theirs,.int .i64 S.time,.int .i64 S.silent,.int .i64 S.said,ov,hv]
inductive Ev where
 | opened
 | closed
 | got (u:Up)
def Ev.c:Ev→List AV
 | .opened => .int .i64 1::zU
 | .closed => .int .i64 2::zU
 | .got u => .int .i64 3::u.c
section
variable {S:Ses} {bv ov hv:AV}
theorem zx:(S.c bv ov hv).length=12:=rfl
theorem sc0:List.take 1 (S.c bv ov hv)=[.int .u32 S.asn]:=rfl
theorem sc1:List.take 1 (List.drop 1 (S.c bv ov hv))=[.int .u32 S.id]:=rfl
theorem sc2:List.take 1 (List.drop 2 (S.c bv ov hv))=[.int .i64 S.hold]:=rfl
theorem sc3:List.take 1 (List.drop 3 (S.c bv ov hv))=[.int .u32 S.peer]:=rfl
theorem sc4:List.take 1 (List.drop 4 (S.c bv ov hv))=[.int .i64 S.st]:=rfl
theorem sc5:List.take 1 (List.drop 5 (S.c bv ov hv))=[bv]:=rfl
theorem sc6:List.take 1 (List.drop 6 (S.c bv ov hv))=[.int .u32 S.theirs]:=rfl
theorem sc7:List.take 1 (List.drop 7 (S.c bv ov hv))=[.int .i64 S.time]:=rfl
theorem sc8:List.take 1 (List.drop 8 (S.c bv ov hv))=[.int .i64 S.silent]:=rfl
theorem sc9:List.take 1 (List.drop 9 (S.c bv ov hv))=[.int .i64 S.said]:=rfl
theorem zds:List.take 1 (List.drop 10 (S.c bv ov hv))=[ov]:=rfl
theorem z6a:List.take 1 (List.drop 11 (S.c bv ov hv))=[hv]:=rfl
theorem sw4 (x:Int):splice 4 [.int .i64 x] (S.c bv ov hv)=some (({ S with st:=x }:Ses).c bv ov hv):=rfl
theorem sw5 (v:AV):splice 5 [v] (S.c bv ov hv)=some (S.c v ov hv):=rfl
theorem sw6 (x:Int):splice 6 [.int .u32 x] (S.c bv ov hv)=some (({ S with theirs:=x }:Ses).c bv ov hv):=rfl
theorem sw7 (x:Int):splice 7 [.int .i64 x] (S.c bv ov hv)=some (({ S with time:=x }:Ses).c bv ov hv):=rfl
theorem sw8 (x:Int):splice 8 [.int .i64 x] (S.c bv ov hv)=some (({ S with silent:=x }:Ses).c bv ov hv):=rfl
theorem sw9 (x:Int):splice 9 [.int .i64 x] (S.c bv ov hv)=some (({ S with said:=x }:Ses).c bv ov hv):=rfl
theorem zdv (v:AV):splice 10 [v] (S.c bv ov hv)=some (S.c bv v hv):=rfl
theorem z6d (v:AV):splice 11 [v] (S.c bv ov hv)=some (S.c bv ov v):=rfl
end
theorem OwnO.setId {esz:Nat} {τ s:Store} {L:List (List AV)} {v:AV} {id:Nat} {o o':Obj} (h:OwnO esz τ L v s) (hid:s id=some o) (ho:∀ M,o ≠ .arr esz M):OwnO esz τ L v (s.set id o'):=by
 rcases h with h | ⟨g,f,es,rfl,h2,h3,h4⟩
 ·exact .inl h
 ·have ne:¬ g=id:=fun e=>by subst e;rw [h3] at hid;cases hid;exact ho _ rfl
  have h3':(s.set id o') g=some (.arr esz es):=by rw [Store.set_ne _ _ ne];exact h3
  refine .inr ⟨g,f,es,rfl,h2,h3',?_⟩
  simp only [slc,h3,h3'] at h4 ⊢
  exact h4
def SP (τ:Store) (p:Nat) (B O:List Int) (E:List Ev) (bv ov hv:AV) (s:Store):Prop :=
 τ p=none∧Store.sub τ s∧OwnO 1 τ (B.map cB) bv s∧Own 1 τ (O.map cB) ov s∧Own 13 τ (E.map Ev.c) hv s∧∀ g o n,bv = .os g 1 o n→∀ e o' n',ov ≠ .os g e o' n'
def SF (τ:Store) (p:Nat) (S:Ses) (O:List Int) (E:List Ev) (s:Store):Prop:=∃ bv ov hv,s p=some (.box (S.c bv ov hv))∧SP τ p S.b O E bv ov hv s
section
variable {τ s s':Store} {p:Nat} {B O:List Int} {E:List Ev} {bv ov hv:AV} {S:Ses} {cs cs':List AV}
theorem SP.mono (h:SP τ p B O E bv ov hv s) (hs:Store.sub s s'):SP τ p B O E bv ov hv s':=⟨h.1,Store.sub_trans h.2.1 hs,h.2.2.1.mono hs,h.2.2.2.1.mono hs,h.2.2.2.2.1.mono hs,h.2.2.2.2.2⟩
theorem SF.mono (h:SF τ p S O E s) (hs:Store.sub s s'):SF τ p S O E s':=by
 obtain ⟨bv,ov,hv,h1,h2⟩:=h
 exact ⟨bv,ov,hv,hs _ _ h1,h2.mono hs⟩
theorem SP.setP (h:SP τ p B O E bv ov hv s) (hp:s p=some (.box cs)):SP τ p B O E bv ov hv (s.set p (.box cs')) :=
 ⟨h.1,zb h.2.1 h.1,h.2.2.1.setId hp (fun M e=>by cases e),h.2.2.2.1.setId hp (fun M e=>by cases e),h.2.2.2.2.1.setId hp (fun M e=>by cases e),h.2.2.2.2.2⟩
theorem SP.put (h:SP τ p S.b O E bv ov hv s) (hp:s p=some (.box cs)):SF τ p S O E (s.set p (.box (S.c bv ov hv))):=⟨bv,ov,hv,Store.set_same _ _ _,h.setP hp⟩
theorem Own.ne_box {esz:Nat} {L:List (List AV)} {v:AV} (h:Own esz τ L v s) (hp:s p=some (.box cs)):∀ e o n,v ≠ .os p e o n:=fun e o n hv=>by
 rcases h with ⟨_,rfl⟩ | ⟨g,rfl,_,h3⟩
 ·cases hv
 ·cases hv;rw [h3] at hp;cases hp
theorem OwnO.ne_box {esz:Nat} {L:List (List AV)} {v:AV} (h:OwnO esz τ L v s) (hp:s p=some (.box cs)):∀ e o n,v ≠ .os p e o n:=fun e o n hv=>by
 rcases h with ⟨_,rfl⟩ | ⟨g,f,es,rfl,_,h3,_⟩
 ·cases hv
 ·cases hv;rw [h3] at hp;cases hp
theorem OwnO.stays {esz e2:Nat} {L:List (List AV)} {v w w':AV} (h:OwnO esz τ L v s) (hne:∀ g o n,v = .os g esz o n→∀ e o' n',w ≠ .os g e o' n') (hf:∀ j o,s j=some o→(∀ e o' n,w ≠ .os j e o' n)→s' j=some o∧(∀ e o' n,w' ≠ .os j e o' n)) :
 OwnO esz τ L v s'∧(∀ g o n,v = .os g esz o n→∀ e o' n',w' ≠ .os g e o' n'):=by
 rcases h with ⟨rfl,rfl⟩ | ⟨g,f,es,rfl,h2,h3,h4⟩
 ·exact ⟨.inl ⟨rfl,rfl⟩,fun g o n h=>by cases h⟩
 ·obtain ⟨q1,q2⟩:=hf g _ h3 (hne _ _ _ rfl)
  refine ⟨.inr ⟨g,f,es,rfl,h2,q1,?_⟩,fun g' o n h=>by cases h;exact q2⟩
  simp only [slc,h3,q1] at h4 ⊢
  exact h4
theorem Own.stays {esz e2:Nat} {L:List (List AV)} {v w w':AV} (h:Own esz τ L v s) (hne:∀ g n,v = .os g esz 0 n→∀ e o' n',w ≠ .os g e o' n') (hf:∀ j o,s j=some o→(∀ e o' n,w ≠ .os j e o' n)→s' j=some o∧(∀ e o' n,w' ≠ .os j e o' n)) :
 Own esz τ L v s'∧(∀ g n,v = .os g esz 0 n→∀ e o' n',w' ≠ .os g e o' n'):=by
 rcases h with ⟨rfl,rfl⟩ | ⟨g,rfl,h2,h3⟩
 ·exact ⟨.inl ⟨rfl,rfl⟩,fun g n h=>by cases h⟩
 ·obtain ⟨q1,q2⟩:=hf g _ h3 (hne _ _ rfl)
  exact ⟨.inr ⟨g,rfl,h2,q1⟩,fun g' n h=>by cases h;exact q2⟩
theorem Own.apart {e1 e2:Nat} {L M:List (List AV)} {v w:AV} (h:Own e1 τ L v s) (h':OwnO e2 τ M w s) (hn:e1≠e2):∀ g n,v = .os g e1 0 n→∀ e o' n',w ≠ .os g e o' n':=fun g n hv e o' n' hw=>by
 rcases h with ⟨_,rfl⟩ | ⟨g1,rfl,_,h3⟩
 ·cases hv
 ·cases hv
  rcases h' with ⟨_,rfl⟩ | ⟨g2,f,es,rfl,_,h4,_⟩
  ·cases hw
  ·cases hw;rw [h3] at h4;cases h4;exact hn rfl
theorem OwnO.apart {e1 e2:Nat} {L M:List (List AV)} {v w:AV} (h:OwnO e1 τ L v s) (h':OwnO e2 τ M w s) (hn:e1≠e2):∀ g o n,v = .os g e1 o n→∀ e o' n',w ≠ .os g e o' n':=fun g o n hv e o' n' hw=>by
 rcases h with ⟨_,rfl⟩ | ⟨g1,f1,es1,rfl,_,h3,_⟩
 ·cases hv
 ·cases hv
  rcases h' with ⟨_,rfl⟩ | ⟨g2,f,es,rfl,_,h4,_⟩
  ·cases hw
  ·cases hw;rw [h3] at h4;cases h4;exact hn rfl
end
end Go.Am
namespace Go.Am
open Go.Proofs Go.Sort
section
variable {τ s:Store} {p:Nat} {B O M:List Int} {E:List Ev} {bv ov hv wv:AV} {cs:List AV} {K:AV→Store→Prop}
theorem SP.appO (h:SP τ p B O E bv ov hv s) (hp:s p=some (.box cs)) (hw:slc s 1 wv=some (M.map cB)) (hsz:O.length+M.length≤100000000)
 (hK:∀ ov' s',s' p=some (.box cs)→SP τ p B (O++M) E bv ov' hv s'→K ov' s'):appwp 1 1 ov wv s K:=by
 obtain ⟨h1,h2,h3,h4,h5,h6⟩:=h
 refine OwnO.app h2 (OwnO.of h4) hw (by simp;omega) fun v' s' q1 q2 q3 => ?_
 obtain ⟨b1,b2⟩:=h3.stays (e2:=1) h6 q3
 obtain ⟨e1,e2⟩:=h5.stays (e2:=1) (h5.apart (OwnO.of h4) (by decide)) q3
 exact hK v' s' (q3 _ _ hp (h4.ne_box hp)).1 ⟨h1,q1,b1,by rw [List.map_append];exact q2,e1,b2⟩
theorem SP.appE {x:Ev} (h:SP τ p B O E bv ov hv s) (hp:s p=some (.box cs)) (hw:slc s 13 wv=some [x.c]) (hsz:E.length≤10000000)
 (hK:∀ hv' s',s' p=some (.box cs)→SP τ p B O (E++[x]) bv ov hv' s'→K hv' s'):appwp 13 144 hv wv s K:=by
 obtain ⟨h1,h2,h3,h4,h5,h6⟩:=h
 refine OwnO.app h2 (OwnO.of h5) hw (by simp;omega) fun v' s' q1 q2 q3 => ?_
 obtain ⟨b1,b2⟩:=h3.stays (e2:=13) (h3.apart (OwnO.of h5) (by decide)) q3
 obtain ⟨o1,o2⟩:=h4.stays (e2:=13) (h4.apart (OwnO.of h5) (by decide)) q3
 exact hK v' s' (q3 _ _ hp (h5.ne_box hp)).1 ⟨h1,q1,b1,o1,by rw [List.map_append];exact q2,h6⟩
theorem SP.appB (h:SP τ p B O E bv ov hv s) (hp:s p=some (.box cs)) (hw:slc s 1 wv=some (M.map cB)) (hsz:B.length+M.length≤100000000)
 (hK:∀ bv' s',s' p=some (.box cs)→SP τ p (B++M) O E bv' ov hv s'→K bv' s'):appwp 1 1 bv wv s K:=by
 obtain ⟨h1,h2,h3,h4,h5,h6⟩:=h
 have h6':∀ g n,ov = .os g 1 0 n→∀ e o' n',bv ≠ .os g e o' n':=fun g n hv e o' n' hb=>by
  rcases h3 with ⟨_,rfl⟩ | ⟨g1,f1,es1,rfl,_,_⟩
  ·cases hb
  ·cases hb;exact h6 _ _ _ rfl _ _ _ hv
 refine OwnO.app h2 h3 hw (by simp;omega) fun v' s' q1 q2 q3 => ?_
 obtain ⟨o1,o2⟩:=h4.stays (e2:=1) h6' q3
 obtain ⟨e1,e2⟩:=h5.stays (e2:=1) (h5.apart h3 (by decide)) q3
 exact hK v' s' (q3 _ _ hp (h3.ne_box hp)).1 ⟨h1,q1,OwnO.of (by rw [List.map_append];exact q2),o1,e1,fun g o n hv' e o' n' hov=>by
  rcases q2 with ⟨_,rfl⟩ | ⟨g2,rfl,_,_⟩
  ·cases hv'
  ·cases hv'
   rcases h4 with ⟨_,rfl⟩ | ⟨g3,rfl,_,_⟩
   ·cases hov
   ·cases hov
    exact o2 _ _ rfl _ _ _ rfl⟩
end
section
variable {τ s:Store} {p:Nat} {O:List Int} {E:List Ev} {S:Ses}
theorem s55 (h:SF τ p S O E s):ACalls Tryz.prog 55 [.ptr p 0] s (fun r s'=>s'=s∧r = .bool (decide (S.peer=S.asn))):=by
 refine ze Tst.F55 (by simp [Tst.F55,Fn.mkX]) ?_
 simp only [Tst.F55,Fn.mkX,Tst.b55]
 obtain ⟨bv,ov,hv,hp,h⟩:=h
 simp only [hp,zx,sc3,sc0,↓vcPre,↓z8,↓reduceIte,vcPost,vcStd,Nat.reduceEqDiff,reduceCtorEq,Nat.reduceAdd,Nat.reduceLeDiff,Int.reduceLT,Int.reduceLE,↓u_setN]
 exact EndQ.to _ _ rfl (Store.sub_refl _) ⟨rfl,rfl⟩
theorem s25 (h:SF τ p S O E s):ACalls Tryz.prog 25 [.ptr p 0] s (fun r s'=>s'=s∧r = .int .i64 S.st):=by
 refine ze Tst.F25 (by simp [Tst.F25,Fn.mkX]) ?_
 simp only [Tst.F25,Fn.mkX,Tst.b25]
 obtain ⟨bv,ov,hv,hp,h⟩:=h
 simp only [hp,zx,sc4,↓vcPre,↓z8,↓reduceIte,vcPost,vcStd,Nat.reduceEqDiff,reduceCtorEq,Nat.reduceAdd,Nat.reduceLeDiff,Int.reduceLT,Int.reduceLE,↓u_setN]
 exact EndQ.to _ _ rfl (Store.sub_refl _) ⟨rfl,rfl⟩
theorem s31 (h:SF τ p S O E s):ACalls Tryz.prog 31 [.ptr p 0] s (fun r s'=>s'=s∧r = .int .u32 S.theirs):=by
 refine ze Tst.F31 (by simp [Tst.F31,Fn.mkX]) ?_
 simp only [Tst.F31,Fn.mkX,Tst.b31]
 obtain ⟨bv,ov,hv,hp,h⟩:=h
 simp only [hp,zx,sc6,↓vcPre,↓z8,↓reduceIte,vcPost,vcStd,Nat.reduceEqDiff,reduceCtorEq,Nat.reduceAdd,Nat.reduceLeDiff,Int.reduceLT,Int.reduceLE,↓u_setN]
 exact EndQ.to _ _ rfl (Store.sub_refl _) ⟨rfl,rfl⟩
def sentS (S:Ses) (k:Int):Ses:=if k=4 then { S with said:=0 } else S
theorem ue (k:Int) (b:List Int):(joinF k b).1.length≤4096:=by
 unfold joinF
 split
 ·simp
 ·split
  ·simp
  ·simp [ones16];omega
theorem s57 (h:SF τ p S O E s) (hO:O.length≤95000000) (k:Int) {body:List Int} {v:AV} (hr:Rd 1 s (body.map cB) v) (hb:body.length≤1000000) :
 ACalls Tryz.prog 57 [.ptr p 0,.int .i64 k,v] s (fun r s'=>r = .tup []∧SF τ p (sentS S k) (O++(joinF k body).1) E s'):=by
 refine ze Tst.F57 (by simp [Tst.F57,Fn.mkX]) ?_
 simp only [Tst.F57,Fn.mkX,Tst.b57]
 obtain ⟨bv,ov,hv,hp,h⟩:=h
 have hj:=ue k body
 simp only [↓vcPre,↓z8,↓reduceIte,vcPost,vcStd,Nat.reduceEqDiff,reduceCtorEq,Nat.reduceAdd,Nat.reduceLeDiff,Int.reduceLT,Int.reduceLE,↓u_setN]
 refine (zif hr hb k).Q ?_
 rintro r s ⟨rfl,rfl⟩
 simp only [hp,zx,zds,↓vcPre,↓z8,↓reduceIte,vcPost,vcStd,Nat.reduceEqDiff,reduceCtorEq,Nat.reduceAdd,Nat.reduceLeDiff,Int.reduceLT,Int.reduceLE,↓u_setN]
 refine h.appO hp us (by omega) fun ov' s' hp' h' => ?_
 have hcl:=h'.2.2.2.1.cell
 simp only [hp',hcl.1,hcl.2,zdv,↓vcPre,↓z8,↓reduceIte,vcPost,vcStd,Nat.reduceEqDiff,reduceCtorEq,Nat.reduceAdd,Nat.reduceLeDiff,Int.reduceLT,Int.reduceLE,↓u_setN]
 have q:=h'.setP (cs':=S.c bv ov' hv) hp'
 have qp:=Store.set_same s' p (.box (S.c bv ov' hv))
 refine ⟨fun c => ?_,fun c => ?_⟩
 ·simp only [qp,zx,sw9,↓vcPre,↓z8,↓reduceIte,vcPost,vcStd,Nat.reduceEqDiff,reduceCtorEq,Nat.reduceAdd,Nat.reduceLeDiff,Int.reduceLT,Int.reduceLE,↓u_setN]
  refine EndQ.to _ _ rfl (Store.sub_refl _) ⟨rfl,?_⟩
  unfold sentS;rw [if_pos c]
  exact SP.put (S:={ S with said:=0 }) q qp
 ·refine EndQ.to _ _ rfl (Store.sub_refl _) ⟨rfl,?_⟩
  unfold sentS;rw [if_neg c]
  exact ⟨bv,ov',hv,qp,q⟩
end
end Go.Am
namespace Go.Am.Ts36
open Go.Proofs Go.Am.B
def t51_34:BC := .ops [m 34 0,m 35 0,m 36 0,m 37 0,m 38 0,m 39 0,u 40 .nilchk 34,f 41 4 40,⟨none,none,.loud (.st 1),[.t 41,.c (.int .i64 1)]⟩,u 42 .nilchk 35,f 43 5 42,⟨none,none,.loud (.st 1),[.t 43,.c .nils]⟩,u 44 .nilchk 36,f 45 6 44,⟨none,none,.loud (.st 1),[.t 45,.c (.int .u32 0)]⟩,u 46 .nilchk 37,f 47 7 46,⟨none,none,.loud (.st 1),[.t 47,.c (.int .i64 0)]⟩,u 48 .nilchk 38,f 49 8 48,⟨none,none,.loud (.st 1),[.t 49,.c (.int .i64 0)]⟩,u 50 .nilchk 39,f 51 9 50,⟨none,none,.loud (.st 1),[.t 51,.c (.int .i64 0)]⟩] []
def t51_19:BC := .seq (z [m 19 0,u 20 .nilchk 19,f 21 4 20,l 22 1 21,c 23 .eql 22 4] [0,23] (.cond (.t 23) (.ops [m 24 0,m 25 0,u 26 .nilchk 25,f 27 11 26,l 28 1 27,p 29 (.build [(.int .i64 0),.nils,(.bool false),(.int .i64 0),.nils,(.int .u32 0),(.bool false),(.int .u32 0),(.bool false),(.int .u32 0),(.bool false),.nils,.nils] [(0,1)]) [.c (.int .i64 2)],⟨some 30,none,.alloc (.mksl 13 1),[.t 29]⟩,⟨some 31,none,.loud (.app 13 144),[.t 28,.t 30]⟩,u 32 .nilchk 24,f 33 11 32,s 1 33 31] [0]) .skip)) t51_34
def b51:BC:=z [⟨some 3,none,.alloc (.box),[.t 1]⟩] [0,3] (.seq (z [f 4 0 3,l 5 1 4,c 6 .neq 5 0] [0,3,6] (.cond (.t 6) (z [f 7 2 3,l 8 1 7,f 9 2 3,l 10 1 9,u 11 .len 10,p 12 (.minmax false) [.t 11,.c (.int .i64 4075)],p 13 (.slice 1 false true) [.t 8,.t 12],f 14 2 3,s 1 14 13] [0,3] (.ops [m 15 0,⟨some 16,none,.load (.ld 3 true),[.t 3]⟩,g 17 102 [.t 16],g 18 57 [.t 15,.c (.int .i64 3),.t 17]] [0])) .skip)) t51_19)
def F51:Fn Tryz.prog 51:=Fn.mkX false b51 [] 52 Tryz.f51 _ Tryz.func51 (by decide) rfl Tryz.ntmps51 (by kernel_rfl) (by kernel_rfl)
end Go.Am.Ts36
namespace Go.Am
open Go.Proofs Go.Sort
def ST (τ:Store) (p:Nat) (S:Ses) (O:List Int) (E:List Ev) (ov hv:AV) (s:Store):Prop:=∃ bv,s p=some (.box (S.c bv .nils .nils))∧SP τ p S.b O E bv ov hv s
section
variable {τ s:Store} {p:Nat} {O:List Int} {E:List Ev} {S:Ses}
theorem s53 (h:SF τ p S O E s):ACalls Tryz.prog 53 [.ptr p 0] s (fun r s'=>∃ ov hv,r = .tup [ov,hv]∧ST τ p S O E ov hv s'):=by
 refine ze Tst.F53 (by simp [Tst.F53,Fn.mkX]) ?_
 simp only [Tst.F53,Fn.mkX,Tst.b53]
 obtain ⟨bv,ov,hv,hp,h⟩:=h
 have hov:ov = .nils∨∃ id off len,ov = .os id 1 off len:=by
  rcases h.2.2.2.1 with ⟨_,rfl⟩ | ⟨g,rfl,_⟩
  ·exact .inl rfl
  ·exact .inr ⟨_,_,_,rfl⟩
 simp only [hp,zx,zds,z6a,↓vcPre,↓z8,↓reduceIte,vcPost,vcStd,Nat.reduceEqDiff,reduceCtorEq,Nat.reduceAdd,Nat.reduceLeDiff,Int.reduceLT,Int.reduceLE,↓u_setN]
 refine (z5p (σ:=s) hov).Q ?_
 rintro r s ⟨rfl,rfl⟩
 simp only [hp,zx,zdv,z6d,↓vcPre,↓z8,↓reduceIte,vcPost,vcStd,Nat.reduceEqDiff,reduceCtorEq,Nat.reduceAdd,Nat.reduceLeDiff,Int.reduceLT,Int.reduceLE,↓u_setN]
 refine EndQ.to _ (.tup [r,hv]) rfl (Store.sub_refl _) ⟨r,hv,rfl,bv,Store.set_same _ _ _,?_⟩
 exact (h.setP (cs':=S.c bv .nils hv) hp).setP (Store.set_same _ _ _)
def cutN (n:Nt3):Nt3:={ n with data:=n.data.take 4075 }
def endS (S:Ses):Ses:={ S with st:=1,b:=[],theirs:=0,time:=0,silent:=0,said:=0 }
def endO (O:List Int) (n:Nt3):List Int:=if n.code=0 then O else O++(joinF 3 (enoteF (cutN n))).1
def endE (S:Ses) (E:List Ev):List Ev:=if S.st=4 then E++[.closed] else E
theorem z0b {f:Nat} {a:AV} {n:Nt3} {s:Store} {Q:AV→Store→Prop} (hd:n.data=[]) (h:ACalls Tryz.prog f [a,.agg n.c] s Q):ACalls Tryz.prog f [a,.agg (ntC n)] s Q :=
 ACalls.weakArgs h.1 (WeakL.pos 1 rfl (up (z0d n hd) (WeakL.pure h)))
variable {nn rr:Env→Store→Prop} {xx:Nat→Env→Store→Prop}
theorem z2v (h:SF τ p S O E s) (X:List (Nat×AV)) (hn:∀ s' X',SF τ p (endS S) O E s'→nn X' s'):bwp Tryz.prog Ts36.t51_34 ((0,.ptr p 0)::X) s nn rr xx:=by
 simp only [Ts36.t51_34]
 obtain ⟨bv,ov,hv,hp,h⟩:=h
 simp only [hp,zx,sw4,sw5,sw6,sw7,sw8,sw9,↓vcPre,↓z8,↓reduceIte,vcPost,vcStd,Nat.reduceEqDiff,reduceCtorEq,Nat.reduceAdd,Nat.reduceLeDiff,Int.reduceLT,Int.reduceLE,↓u_setN]
 refine hn _ _ ?_
 simp only [Store.set_set]
 refine ⟨.nils,ov,hv,Store.set_same _ _ _,?_⟩
 have q:=h.setP (cs':=(endS S).c .nils ov hv) hp
 exact ⟨q.1,q.2.1,.inl ⟨rfl,rfl⟩,q.2.2.2.1,q.2.2.2.2.1,fun g o n h=>by cases h⟩
theorem z2u (h:SF τ p S O E s) (hE:E.length≤1000000) (X:List (Nat×AV)) (hn:∀ s' X',SF τ p (endS S) O (endE S E) s'→nn X' s'):bwp Tryz.prog Ts36.t51_19 ((0,.ptr p 0)::X) s nn rr xx:=by
 simp only [Ts36.t51_19]
 have hsf:=h
 obtain ⟨bv,ov,hv,hp,h⟩:=h
 have e13:alv (.mksl 13 1) [.agg Ev.closed.c]=some (.arr 13 [Ev.closed.c],fun id => .os id 13 0 1):=rfl
 have ec:[AV.int .i64 2,.nils,.bool false,.int .i64 0,.nils,.int .u32 0,.bool false,.int .u32 0,.bool false,.int .u32 0,.bool false,.nils,.nils]=Ev.closed.c:=rfl
 simp only [hp,zx,sc4,↓vcPre,↓z8,↓reduceIte,vcPost,vcStd,Nat.reduceEqDiff,reduceCtorEq,Nat.reduceAdd,Nat.reduceLeDiff,Int.reduceLT,Int.reduceLE,↓u_setN]
 refine ⟨fun c => ?_,fun c => ?_⟩
 ·have he:endE S E=E++[.closed]:=by unfold endE;rw [if_pos c]
  rw [he] at hn
  simp only [hp,zx,z6a,ec,e13,↓vcPre,↓z8,↓reduceIte,vcPost,vcStd,Nat.reduceEqDiff,reduceCtorEq,Nat.reduceAdd,Nat.reduceLeDiff,Int.reduceLT,Int.reduceLE,↓u_setN]
  refine AllocQ.i0 fun q hq => ?_
  simp only [↓vcPre,↓z8,↓reduceIte,vcPost,vcStd,Nat.reduceEqDiff,reduceCtorEq,Nat.reduceAdd,Nat.reduceLeDiff,Int.reduceLT,Int.reduceLE,↓u_setN]
  have h2:=h.mono (Store.sub_set s q (.arr 13 [Ev.closed.c]) hq)
  refine h2.appE (x := .closed) (Store.sub_set _ _ _ hq _ _ hp) (zq (Store.set_same _ _ _) rfl) (by omega) fun hv' s' hp' h' => ?_
  have hcl:=h'.2.2.2.2.1.cell
  simp only [hp',hcl.1,hcl.2,z6d,↓vcPre,↓z8,↓reduceIte,vcPost,vcStd,Nat.reduceEqDiff,reduceCtorEq,Nat.reduceAdd,Nat.reduceLeDiff,Int.reduceLT,Int.reduceLE,↓u_setN]
  exact z2v ⟨bv,ov,hv',Store.set_same _ _ _,h'.setP hp'⟩ _ hn
 ·have he:endE S E=E:=by unfold endE;rw [if_neg c]
  rw [he] at hn
  exact z2v hsf _ hn
theorem SP.setQ {B:List Int} {bv ov hv:AV} {q:Nat} {cs cs':List AV} (h:SP τ p B O E bv ov hv s) (hq:s q=some (.box cs)) (hτ:τ q=none):SP τ p B O E bv ov hv (s.set q (.box cs')) :=
 ⟨h.1,zb h.2.1 hτ,h.2.2.1.setId hq (fun M e=>by cases e),h.2.2.2.1.setId hq (fun M e=>by cases e),h.2.2.2.2.1.setId hq (fun M e=>by cases e),h.2.2.2.2.2⟩
theorem SF.setQ {q:Nat} {cs cs':List AV} (h:SF τ p S O E s) (hq:s q=some (.box cs)) (hτ:τ q=none) (hpq:¬ p=q):SF τ p S O E (s.set q (.box cs')):=by
 obtain ⟨bv,ov,hv,hp,h⟩:=h
 exact ⟨bv,ov,hv,(Store.set_ne _ _ hpq).trans hp,h.setQ hq hτ⟩
theorem SF.sub (h:SF τ p S O E s):Store.sub τ s:=by obtain ⟨bv,ov,hv,hp,h⟩:=h;exact h.2.1
set_option maxHeartbeats 1000000 in
theorem s51 (h:SF τ p S O E s) (hO:O.length≤95000000) (hE:E.length≤1000000) (n:Nt3):ACalls Tryz.prog 51 [.ptr p 0,.agg n.c] s (fun r s'=>r = .tup []∧SF τ p (endS S) (endO O n) (endE S E) s'):=by
 refine ze Ts36.F51 (by simp [Ts36.F51,Fn.mkX]) ?_
 simp only [Ts36.F51,Fn.mkX,Ts36.b51]
 have l3:∀ n:Nt3,n.c.length=3:=fun _=>rfl
 have t3:∀ n:Nt3,List.take 3 n.c=n.c:=fun _=>rfl
 have f0:∀ n:Nt3,List.take 1 n.c=[.int .i64 n.code]:=fun _=>rfl
 have f2:∀ n:Nt3,List.take 1 (List.drop 2 n.c)=[.sl 1 (n.data.map cB)]:=fun _=>rfl
 have w2:splice 2 [.sl 1 ((n.data.take 4075).map cB)] n.c=some (cutN n).c:=rfl
 have hpS:∃ o,s p=some o:=by obtain ⟨bv,ov,hv,hp,_⟩:=h;exact ⟨_,hp⟩
 simp only [↓vcPre,↓z8,↓reduceIte,vcPost,vcStd,Nat.reduceEqDiff,reduceCtorEq,Nat.reduceAdd,Nat.reduceLeDiff,Int.reduceLT,Int.reduceLE,↓u_setN]
 refine AllocQ.i0 fun q hq => ?_
 have npq:¬ p=q:=fun e=>by subst e;obtain ⟨o,ho⟩:=hpS;rw [ho] at hq;cases hq
 have hT:=h.mono (Store.sub_set s q (.box n.c) hq)
 have Tq:=Store.set_same s q (.box n.c)
 generalize s.set q (.box n.c)=T at hT Tq ⊢
 simp only [Tq,l3,f0,f2,↓vcPre,↓z8,↓reduceIte,vcPost,vcStd,Nat.reduceEqDiff,reduceCtorEq,Nat.reduceAdd,Nat.reduceLeDiff,Int.reduceLT,Int.reduceLE,↓u_setN]
 refine ⟨fun c => ?_,fun c => ?_⟩
 ·have e:∀ y,List.drop (Int.toNat 0) (List.take ((some (if (4075:Int)<(n.data.length:Int) then 4075 else (n.data.length:Int))).getD y).toNat (List.map cB n.data))=(n.data.take 4075).map cB:=fun y=>by
   show List.take (if (4075:Int)<(n.data.length:Int) then 4075 else (n.data.length:Int)).toNat (List.map cB n.data)=_
   rw [List.map_take]
   split
   ·rfl
   ·rw [List.take_of_length_le (by simp),List.take_of_length_le (by simp;omega)]
  rw [e,w2,y7]
  have hτq:τ q=none:=zo h.sub hq
  have hU:=hT.setQ (cs':=(cutN n).c) Tq hτq npq
  have Uq:=Store.set_same T q (.box (cutN n).c)
  refine ⟨by constructor <;> (show _≤_;simp only [Option.getD_some];split <;> omega),by rw [l3];omega,?_⟩
  rw [t3]
  refine (zhm (cutN n) (by simp [cutN];omega)).Q ?_
  simp only [↓vcPre,↓z8,↓reduceIte,vcPost,vcStd,Nat.reduceEqDiff,reduceCtorEq,Nat.reduceAdd,Nat.reduceLeDiff,Int.reduceLT,Int.reduceLE,↓u_setN]
  refine (s57 hU hO 3 Rd.sl (by simp [enoteF,cutN];omega)).Q ?_
  rintro r s' ⟨rfl,h'⟩
  have e3:sentS S 3=S:=by unfold sentS;rw [if_neg (by decide)]
  rw [e3] at h'
  simp only [↓vcPre,↓z8,↓reduceIte,vcPost,vcStd,Nat.reduceEqDiff,reduceCtorEq,Nat.reduceAdd,Nat.reduceLeDiff,Int.reduceLT,Int.reduceLE,↓u_setN]
  refine z2u h' hE _ fun s' X' h'=>EndQ.to _ _ rfl (Store.sub_refl _) ⟨rfl,?_⟩
  unfold endO;rw [if_neg (by omega)];exact h'
 ·refine z2u hT hE _ fun s' X' h'=>EndQ.to _ _ rfl (Store.sub_refl _) ⟨rfl,?_⟩
  unfold endO;rw [if_pos (by omega)];exact h'
end
end Go.Am
namespace Go.Am.Ts37
open Go.Proofs Go.Am.B
def t103_11:BC := .seq (z [m 11 0] [0,4,11] (z [m 12 0] [0,4,11,12] (z [f 13 2 4] [0,4,11,12,13] (z [f 15 1 4] [0,11,12,13,15] (z [m 17 0] [0,11,12,13,15,17] (z [u 18 .nilchk 17] [0,11,12,13,15,18] (z [f 19 2 18] [0,11,12,13,15,19] (z [l 14 1 13] [0,11,12,14,15,19] (z [l 20 1 19] [0,11,12,14,15,20] (z [u 22 .nilchk 11] [0,12,14,15,20,22] (z [f 23 6 22] [0,12,14,15,20,23] (.both (z [l 16 1 15] [0,12,14,16,20,23] (z [p 21 (.minmax false) [.t 16,.t 20]] [0,12,14,21,23] (z [s 1 23 14] [0,12,21] (z [u 24 .nilchk 12] [0,21,24] (z [f 25 7 24] [0,21,25] (z [s 1 25 21] [0] (.ops [] [0]))))))) (.both (z [s 1 23 14] [0,12,15,20] (z [l 16 1 15] [0,12,16,20] (z [p 21 (.minmax false) [.t 16,.t 20]] [0,12,21] (z [u 24 .nilchk 12] [0,21,24] (z [f 25 7 24] [0,21,25] (z [s 1 25 21] [0] (.ops [] [0]))))))) (.top)))))))))))))) (z [m 26 0,m 27 0,u 28 .nilchk 26,f 29 4 28,⟨none,none,.loud (.st 1),[.t 29,.c (.int .i64 3)]⟩,u 30 .nilchk 27,f 31 8 30,⟨none,none,.loud (.st 1),[.t 31,.c (.int .i64 0)]⟩] [0] (.ops [m 32 0,g 33 57 [.t 32,.c (.int .i64 4),.c .nils]] []))
def t103_35:BC := .block 0 (z [f 35 0 5,l 36 1 35,c 37 .neq 36 0,m 34 37] [0,4,5,34] (.cond (.t 34) (.ops [m 38 0,⟨some 39,none,.load (.ld 3 true),[.t 5]⟩,g 40 51 [.t 38,.t 39]] []) (z [f 42 0 4,m 44 0,u 45 .nilchk 44,f 46 3 45,l 43 1 42,l 47 1 46,u 48 (.conv .i64) 47,b 49 .neq 43 48,m 41 49] [0,4,41] (.cond (.t 41) (.ops [m 50 0,p 51 (.build [(.int .i64 0),(.int .i64 0),.nils] [(0,1),(1,1)]) [.c (.int .i64 2),.c (.int .i64 2)],g 52 51 [.t 50,.t 51]] []) t103_11))))
def b103:BC:=z [m 7 1,g 8 160 [.t 7],m 6 8,e 9 0 6,e 10 1 6,⟨some 4,none,.alloc (.alloc [(.int .i64 0),(.int .i64 0),(.int .u32 0)]),[]⟩,⟨some 5,none,.alloc (.alloc [(.int .i64 0),(.int .i64 0),.nils]),[]⟩,s 3 4 9,s 3 5 10] [0,4,5] t103_35
def F103:Fn Tryz.prog 103:=Fn.mkX false b103 [] 53 Tryz.f103 _ Tryz.func103 (by decide) rfl Tryz.ntmps103 (by kernel_rfl) (by kernel_rfl)
def t104_22:BC:=z [m 22 0,u 23 .nilchk 22,f 24 8 23,⟨none,none,.loud (.st 1),[.t 24,.c (.int .i64 0)]⟩] [0,4] (.ops [m 25 0,m 26 0,u 27 .nilchk 26,f 28 11 27,l 29 1 28,⟨some 30,none,.load (.ld 12 true),[.t 4]⟩,p 31 (.build [(.int .i64 0),.nils,(.bool false),(.int .i64 0),.nils,(.int .u32 0),(.bool false),(.int .u32 0),(.bool false),(.int .u32 0),(.bool false),.nils,.nils] [(0,1),(1,12)]) [.c (.int .i64 3),.t 30],⟨some 32,none,.alloc (.mksl 13 1),[.t 31]⟩,⟨some 33,none,.loud (.app 13 144),[.t 29,.t 32]⟩,u 34 .nilchk 25,f 35 11 34,s 1 35 33] [])
def t104_37:BC := .block 0 (z [f 37 0 5,l 38 1 37,c 39 .neq 38 0,m 36 39] [0,4,5,6,7,36] (.cond (.t 36) (.ops [m 40 0,⟨some 41,none,.load (.ld 3 true),[.t 5]⟩,g 42 51 [.t 40,.t 41]] []) (z [f 44 1 4,l 45 1 44,m 46 45,⟨some 47,some (46,true),.pure (.mov),[.t 0]⟩,⟨some 48,some (46,true),.loud (.call 55),[.t 47]⟩,⟨some 49,some (46,true),.pure (.not),[.t 48]⟩,⟨some 50,none,.pick,[.t 46,.t 49,.c (.bool false)]⟩,m 51 50,⟨some 52,some (51,true),.pure (.mov),[.t 7]⟩,⟨some 53,some (51,true),.pure (.not),[.t 52]⟩,⟨some 54,some (51,true),.pure (.mov),[.t 53]⟩,⟨some 55,some (54,false),.pure (.mov),[.t 6]⟩,⟨some 56,some (54,false),.pure (.mov),[.t 0]⟩,⟨some 57,some (54,false),.pure (.nilchk),[.t 56]⟩,⟨some 58,some (54,false),.pure (.fld 3),[.t 57]⟩,⟨some 59,some (54,false),.load (.ld 1 false),[.t 58]⟩,⟨some 60,some (54,false),.pure (.bin .neq),[.t 55,.t 59]⟩,⟨some 61,some (51,true),.pick,[.t 54,.c (.bool true),.t 60]⟩,⟨some 62,none,.pick,[.t 51,.t 61,.c (.bool false)]⟩,m 43 62] [0,4,43] (.cond (.t 43) (.ops [m 63 0,p 64 (.build [(.int .i64 0),(.int .i64 0),.nils] [(0,1),(1,1)]) [.c (.int .i64 3),.c (.int .i64 11)],g 65 51 [.t 63,.t 64]] []) t104_22))))
def b104:BC:=z [m 9 1,m 10 0,g 11 55 [.t 10],g 12 161 [.t 9,.t 11],m 8 12,e 13 0 8,e 14 1 8,⟨some 4,none,.alloc (.alloc [.nils,(.bool false),(.int .i64 0),.nils,(.int .u32 0),(.bool false),(.int .u32 0),(.bool false),(.int .u32 0),(.bool false),.nils,.nils]),[]⟩,⟨some 5,none,.alloc (.alloc [(.int .i64 0),(.int .i64 0),.nils]),[]⟩,s 12 4 13,s 3 5 14] [0,4,5] (z [f 16 2 4,f 17 1 16,l 18 1 17,g 19 162 [.t 18],m 15 19,e 20 0 15,e 21 1 15,m 6 20,m 7 21] [0,4,5,6,7] t104_37)
def F104:Fn Tryz.prog 104:=Fn.mkX false b104 [] 66 Tryz.f104 _ Tryz.func104 (by decide) rfl Tryz.ntmps104 (by kernel_rfl) (by kernel_rfl)
end Go.Am.Ts37
namespace Go.Am
open Go.Proofs Go.Sort
def firstF (l:List Seg):Int×Bool:=match l with
 | []=>(0,false)
 | s::_=>if s.kind=2 then match s.ls with
   | []=>(0,false)
   | x::_=>(x,true) else (0,false)
theorem zhu (l:List Seg):Pur Tryz.prog 162 [.sl 2 (l.map Seg.c)] (.tup [.int .u32 (firstF l).1,.bool (firstF l).2]):=by
 refine zw Tst.F162 (by simp [Tst.F162,Fn.mkX]) fun σ => ?_
 simp only [Tst.F162,Fn.mkX,Tst.b162]
 match l with
 | [] =>
   simp only [↓vcPre,↓z8,↓reduceIte,vcPost,vcStd,Nat.reduceEqDiff,reduceCtorEq,Nat.reduceAdd,Nat.reduceLeDiff,Int.reduceLT,Int.reduceLE,↓u_setN]
   exact ⟨fun h=>absurd rfl h,fun _=>rfl⟩
 | ⟨k,ls⟩::r =>
   have e0:(List.map Seg.c (⟨k,ls⟩::r))=[.int .i64 k,.sl 1 (ls.map cU)]::r.map Seg.c:=rfl
   rw [e0]
   have g:∀ h,(([AV.int .i64 k,.sl 1 (ls.map cU)]::r.map Seg.c:List (List AV)))[Int.toNat 0]'h=[.int .i64 k,.sl 1 (ls.map cU)]:=fun _=>rfl
   simp only [g,↓vcPre,↓z8,↓reduceIte,vcPost,vcStd,Nat.reduceEqDiff,reduceCtorEq,Nat.reduceAdd,Nat.reduceLeDiff,Int.reduceLT,Int.reduceLE,↓u_setN]
   refine ⟨fun _=>⟨Nat.succ_pos _,fun hk=>⟨Nat.succ_pos _,fun hl => ?_,fun hl=>⟨Nat.succ_pos _,?_⟩⟩,fun hk => ?_⟩,fun h=>by omega⟩
   ·have:ls=[]:=List.eq_nil_of_length_eq_zero (by omega)
    subst this
    simp [firstF]
   ·match ls,hl with
    | [],hl=>exact absurd rfl hl
    | y::ys,_ =>
      refine ⟨Nat.succ_pos _,Nat.le_refl 1,?_⟩
      show wit (some (AV.int .u32 y)) _
      rw [y7]
      simp [firstF,hk]
   ·simp [firstF,hk]
abbrev Tri:=Ses×List Int×List Ev
def SFt (τ:Store) (p:Nat) (x:Tri) (s:Store):Prop:=SF τ p x.1 x.2.1 x.2.2 s
def Tri.fit (x:Tri):Prop:=x.2.1.length≤90000000∧x.2.2.length≤900000∧0≤x.1.peer∧x.1.peer≤65535
def endT (x:Tri) (n:Nt3):Tri:=(endS x.1,endO x.2.1 n,endE x.1 x.2.2)
def sendT (x:Tri) (k:Int) (b:List Int):Tri:=(sentS x.1 k,x.2.1++(joinF k b).1,x.2.2)
def helloD (x:Tri) (D:Hel×Nt3):Tri :=
 if D.2.code≠0 then endT x D.2
 else if D.1.asn≠x.1.peer then endT x ⟨2,2,[]⟩
 else sendT ({ x.1 with theirs:=D.1.id,time:=if x.1.hold<D.1.hold then x.1.hold else D.1.hold,st:=3,silent:=0 },x.2.1,x.2.2) 4 []
def helloT (x:Tri) (body:List Int):Tri:=helloD x (decH body)
section
variable {τ s:Store} {p:Nat} {x:Tri} {nn rr:Env→Store→Prop} {xx:Nat→Env→Store→Prop}
theorem z7x {D:Hel×Nt3} {p4:Nat} (h:SFt τ p x s) (hx:x.fit) (T4:s p4=some (.box D.1.c)) (c1:¬ D.2.code≠0) (c2:¬ D.1.asn≠x.1.peer) (X:List (Nat×AV)) (hn:∀ s' X',SFt τ p (helloD x D) s'→nn X' s') :
 bwp Tryz.prog Ts37.t103_11 ((0,.ptr p 0)::(4,.ptr p4 0)::X) s nn rr xx:=by
 simp only [Ts37.t103_11]
 have lh:∀ n:Hel,n.c.length=3:=fun _=>rfl
 have g1:∀ n:Hel,List.take 1 (List.drop 1 n.c)=[.int .i64 n.hold]:=fun _=>rfl
 have g2:∀ n:Hel,List.take 1 (List.drop 2 n.c)=[.int .u32 n.id]:=fun _=>rfl
 obtain ⟨bv,ov,hv,hp,h⟩:=h
 have n4:¬ p4=p:=fun e=>by
  subst e;rw [T4] at hp;cases hp
 have fin:∀ bs,bs=({ x.1 with theirs:=D.1.id,time:=if x.1.hold<D.1.hold then x.1.hold else D.1.hold,st:=3,silent:=0 }:Ses).c bv ov hv→SF τ p ({ x.1 with theirs:=D.1.id,time:=if x.1.hold<D.1.hold then x.1.hold else D.1.hold,st:=3,silent:=0 }:Ses) x.2.1 x.2.2 (s.set p (.box bs)):=fun bs e=>by
  subst e
  exact ⟨bv,ov,hv,Store.set_same _ _ _,h.setP hp⟩
 simp only [T4,lh,g1,g2,hp,zx,sc2,sw6,sw7,sw4,sw8,n4,↓vcPre,↓z8,↓reduceIte,vcPost,vcStd,Nat.reduceEqDiff,reduceCtorEq,Nat.reduceAdd,Nat.reduceLeDiff,Int.reduceLT,Int.reduceLE,↓u_setN]
 simp only [Store.set_set]
 refine ⟨?_,?_⟩
 all_goals
  refine (s57 (fin _ rfl) (by have:=hx.1;omega) 4 (body:=[]) Rd.nils (by simp)).Q ?_
  rintro r s' ⟨rfl,h'⟩
  simp only [↓vcPre,↓z8,↓reduceIte,vcPost,vcStd,Nat.reduceEqDiff,reduceCtorEq,Nat.reduceAdd,Nat.reduceLeDiff,Int.reduceLT,Int.reduceLE,↓u_setN]
  refine hn _ _ ?_
  unfold helloD
  rw [if_neg c1,if_neg c2]
  exact h'
set_option maxHeartbeats 1000000 in
theorem zic (h:SFt τ p x s) (hx:x.fit) {body:List Int} {v:AV} (hr:Rd 1 s (body.map cB) v) (hb:body.length≤1000000) (hu:U8s body):ACalls Tryz.prog 103 [.ptr p 0,v] s (fun r s'=>r = .tup []∧SFt τ p (helloT x body) s'):=by
 refine ze Ts37.F103 (by simp [Ts37.F103,Fn.mkX]) ?_
 simp only [Ts37.F103,Fn.mkX,Ts37.b103]
 have l3:∀ n:Nt3,n.c.length=3:=fun _=>rfl
 have t3:∀ n:Nt3,List.take 3 n.c=n.c:=fun _=>rfl
 have lh:∀ n:Hel,n.c.length=3:=fun _=>rfl
 have g0:∀ n:Hel,List.take 1 n.c=[.int .i64 n.asn]:=fun _=>rfl
 have f0:∀ n:Nt3,List.take 1 n.c=[.int .i64 n.code]:=fun _=>rfl
 have zh:∀ n:Hel,splice 0 n.c [AV.int .i64 0,.int .i64 0,.int .u32 0]=some n.c:=fun _=>rfl
 have zn:∀ n:Nt3,splice 0 n.c [AV.int .i64 0,.int .i64 0,.nils]=some n.c:=fun _=>rfl
 simp only [↓vcPre,↓z8,↓reduceIte,vcPost,vcStd,Nat.reduceEqDiff,reduceCtorEq,Nat.reduceAdd,Nat.reduceLeDiff,Int.reduceLT,Int.reduceLE,↓u_setN]
 refine (zik hr hb hu).Q ?_
 rintro r s ⟨rfl,rfl⟩
 unfold helloT
 generalize decH body=D
 simp only [decV,↓vcPre,↓z8,↓reduceIte,vcPost,vcStd,Nat.reduceEqDiff,reduceCtorEq,Nat.reduceAdd,Nat.reduceLeDiff,Int.reduceLT,Int.reduceLE,↓u_setN]
 refine AllocQ.i0 fun p4 h4 => ?_
 simp only [↓vcPre,↓z8,↓reduceIte,vcPost,vcStd,Nat.reduceEqDiff,reduceCtorEq,Nat.reduceAdd,Nat.reduceLeDiff,Int.reduceLT,Int.reduceLE,↓u_setN]
 refine AllocQ.i0 fun p5 h5 => ?_
 have hpS:∃ o,s p=some o:=by obtain ⟨bv,ov,hv,hp,_⟩:=h;exact ⟨_,hp⟩
 obtain ⟨o,hpo⟩:=hpS
 have n4:¬ p=p4:=fun e=>by subst e;rw [hpo] at h4;cases h4
 have sA:=Store.sub_set s p4 (.box [AV.int .i64 0,.int .i64 0,.int .u32 0]) h4
 have A4:=Store.set_same s p4 (.box [AV.int .i64 0,.int .i64 0,.int .u32 0])
 have hA:=SF.mono h sA
 have n5:¬ p=p5:=fun e=>by subst e;rw [sA _ _ hpo] at h5;cases h5
 have n45:¬ p4=p5:=fun e=>by subst e;rw [A4] at h5;cases h5
 have sB:=Store.sub_set _ p5 (.box [AV.int .i64 0,.int .i64 0,.nils]) h5
 have B5:=Store.set_same (s.set p4 (.box [AV.int .i64 0,.int .i64 0,.int .u32 0])) p5 (.box [AV.int .i64 0,.int .i64 0,.nils])
 have B4:=sB _ _ A4
 have hB2:=hA.mono sB
 have t4:τ p4=none:=zo (SF.sub h) h4
 have t5:τ p5=none:=zo (Store.sub_trans (SF.sub h) sA) h5
 have hC:=hB2.setQ (cs':=D.1.c) B4 t4 n4
 have C4:=Store.set_same ((s.set p4 (.box [AV.int .i64 0,.int .i64 0,.int .u32 0])).set p5 (.box [AV.int .i64 0,.int .i64 0,.nils])) p4 (.box D.1.c)
 have C5:=(Store.set_ne ((s.set p4 (.box [AV.int .i64 0,.int .i64 0,.int .u32 0])).set p5 (.box [AV.int .i64 0,.int .i64 0,.nils])) (.box D.1.c) (fun e=>n45 e.symm)).trans B5
 have hD:=hC.setQ (cs':=D.2.c) C5 t5 n5
 have D5:=Store.set_same (((s.set p4 (.box [AV.int .i64 0,.int .i64 0,.int .u32 0])).set p5 (.box [AV.int .i64 0,.int .i64 0,.nils])).set p4 (.box D.1.c)) p5 (.box D.2.c)
 have D4:=(Store.set_ne (((s.set p4 (.box [AV.int .i64 0,.int .i64 0,.int .u32 0])).set p5 (.box [AV.int .i64 0,.int .i64 0,.nils])).set p4 (.box D.1.c)) (.box D.2.c) n45).trans C4
 have n54:¬ p5=p4:=fun e=>n45 e.symm
 simp only [lh,l3,zh,zn,n45,n54,↓vcPre,↓z8,↓reduceIte,vcPost,vcStd,Nat.reduceEqDiff,reduceCtorEq,Nat.reduceAdd,Nat.reduceLeDiff,Int.reduceLT,Int.reduceLE,↓u_setN]
 generalize (((s.set p4 (.box [AV.int .i64 0,.int .i64 0,.int .u32 0])).set p5 (.box [AV.int .i64 0,.int .i64 0,.nils])).set p4 (.box D.1.c)).set p5 (.box D.2.c)=U at hD D4 D5 ⊢
 clear hA hB2 hC sA sB A4 B5 B4 C4 C5
 simp only [Ts37.t103_35]
 have fin:∀ s',SF τ p (helloD x D).1 (helloD x D).2.1 (helloD x D).2.2 s' → @EndQ [] s' ⟨Tst.F103.slots,fun r s'=>r = .tup []∧SFt τ p (helloD x D) s'⟩:=fun s' h'=>EndQ.to _ _ rfl (Store.sub_refl _) ⟨rfl,h'⟩
 simp only [D5,l3,f0,↓vcPre,↓z8,↓reduceIte,vcPost,vcStd,Nat.reduceEqDiff,reduceCtorEq,Nat.reduceAdd,Nat.reduceLeDiff,Int.reduceLT,Int.reduceLE,↓u_setN]
 refine ⟨fun c1 => ?_,fun c1 => ?_⟩
 ·simp only [D5,l3,t3,↓vcPre,↓z8,↓reduceIte,vcPost,vcStd,Nat.reduceEqDiff,reduceCtorEq,Nat.reduceAdd,Nat.reduceLeDiff,Int.reduceLT,Int.reduceLE,↓u_setN]
  refine (s51 hD (by have:=hx.1;omega) (by have:=hx.2.1;omega) D.2).Q ?_
  rintro r s' ⟨rfl,h'⟩
  simp only [↓vcPre,↓z8,↓reduceIte,vcPost,vcStd,Nat.reduceEqDiff,reduceCtorEq,Nat.reduceAdd,Nat.reduceLeDiff,Int.reduceLT,Int.reduceLE,↓u_setN]
  exact fin _ (by unfold helloD;rw [if_pos c1];exact h')
 ·have hD':=hD
  obtain ⟨bv,ov,hv,hp,hSP⟩:=hD'
  have w0:IntKind.i64.wrap x.1.peer=x.1.peer:=zd (by have:=hx.2.2;unfold I64;omega)
  simp only [D4,hp,lh,g0,zx,sc3,w0,↓vcPre,↓z8,↓reduceIte,vcPost,vcStd,Nat.reduceEqDiff,reduceCtorEq,Nat.reduceAdd,Nat.reduceLeDiff,Int.reduceLT,Int.reduceLE,↓u_setN]
  refine ⟨fun c2 => ?_,fun c2 => ?_⟩
  ·refine (z0b (n:=⟨2,2,[]⟩) rfl (s51 hD (by have:=hx.1;omega) (by have:=hx.2.1;omega) ⟨2,2,[]⟩)).Q ?_
   rintro r s' ⟨rfl,h'⟩
   simp only [↓vcPre,↓z8,↓reduceIte,vcPost,vcStd,Nat.reduceEqDiff,reduceCtorEq,Nat.reduceAdd,Nat.reduceLeDiff,Int.reduceLT,Int.reduceLE,↓u_setN]
   exact fin _ (by unfold helloD;rw [if_neg (by simpa using c1),if_pos c2];exact h')
  ·exact z7x hD hx D4 (by simpa using c1) (by simpa using c2) _ fun s' X' h'=>EndQ.to _ _ rfl (Store.sub_refl _) ⟨rfl,h'⟩
end
end Go.Am
namespace Go.Am
open Go.Proofs Go.Sort
def newsD (x:Tri) (r:Except Nt Up):Tri:=match r with
 | .error n=>endT x ⟨3,n.1,n.2⟩
 | .ok u=>if u.has=true∧x.1.peer≠x.1.asn∧((firstF u.a.path).2=false∨(firstF u.a.path).1≠x.1.peer) then endT x ⟨3,11,[]⟩ else ({ x.1 with silent:=0 },x.2.1,x.2.2++[.got u])
def newsT (x:Tri) (body:List Int):Tri:=newsD x (decU (decide (x.1.peer=x.1.asn)) body)
section
variable {τ s:Store} {p:Nat} {x:Tri} {nn rr:Env→Store→Prop} {xx:Nat→Env→Store→Prop}
theorem zaw (u:Up):alv (.mksl 13 1) [.agg (AV.int .i64 3::u.c)]=some (.arr 13 [(Ev.got u).c],fun id => .os id 13 0 1):=rfl
theorem z07 {u:Up} {p4:Nat} (h:SFt τ p x s) (hx:x.fit) (T4:s p4=some (.box u.c)) (n4:¬ p4=p) (X:List (Nat×AV)) (hn:∀ s' X',SFt τ p ({ x.1 with silent:=0 },x.2.1,x.2.2++[.got u]) s'→nn X' s') :
 bwp Tryz.prog Ts37.t104_22 ((0,.ptr p 0)::(4,.ptr p4 0)::X) s nn rr xx:=by
 simp only [Ts37.t104_22]
 have ul:u.c.length=12:=rfl
 have ut:List.take 12 u.c=u.c:=rfl
 have zu:splice 0 u.c [AV.nils,.bool false,.int .i64 0,.nils,.int .u32 0,.bool false,.int .u32 0,.bool false,.int .u32 0,.bool false,.nils,.nils]=some u.c:=rfl
 have eg:=zaw u
 obtain ⟨bv,ov,hv,hp,hSP⟩:=h
 simp only [hp,zx,sw8,z6a,n4,T4,ul,ut,zu,eg,↓vcPre,↓z8,↓reduceIte,vcPost,vcStd,Nat.reduceEqDiff,reduceCtorEq,Nat.reduceAdd,Nat.reduceLeDiff,Int.reduceLT,Int.reduceLE,↓u_setN]
 refine AllocQ.i0 fun q hq => ?_
 have hq':s q=none:=by
  by_cases e:q=p
  ·subst e;rw [Store.set_same] at hq;cases hq
  ·rwa [Store.set_ne _ _ e] at hq
 have P1:=hSP.setP (cs':=(({ x.1 with silent:=0 }:Ses).c bv ov hv)) hp
 have P2:=P1.mono (Store.sub_set _ q (.arr 13 [(Ev.got u).c]) hq)
 have Pp:=Store.sub_set _ q (.arr 13 [(Ev.got u).c]) hq _ _ (Store.set_same s p (.box (({ x.1 with silent:=0 }:Ses).c bv ov hv)))
 simp only [↓vcPre,↓z8,↓reduceIte,vcPost,vcStd,Nat.reduceEqDiff,reduceCtorEq,Nat.reduceAdd,Nat.reduceLeDiff,Int.reduceLT,Int.reduceLE,↓u_setN]
 refine P2.appE (x := .got u) Pp (zq (Store.set_same _ _ _) rfl) (by have:=hx.2.1;omega) fun hv' s' hp' h' => ?_
 have hcl:=h'.2.2.2.2.1.cell
 simp only [hp',hcl.1,hcl.2,z6d,↓vcPre,↓z8,↓reduceIte,vcPost,vcStd,Nat.reduceEqDiff,reduceCtorEq,Nat.reduceAdd,Nat.reduceLeDiff,Int.reduceLT,Int.reduceLE,↓u_setN]
 exact hn _ _ ⟨bv,ov,hv',Store.set_same _ _ _,h'.setP hp'⟩
set_option maxHeartbeats 1000000 in
theorem z7z {u:Up} {nt:Nt3} {p4 p5:Nat} (h:SFt τ p x s) (hx:x.fit) (T4:s p4=some (.box u.c)) (T5:s p5=some (.box nt.c)) (n4:¬ p4=p) (X:List (Nat×AV)) (R:Except Nt Up) (hR:R = .ok u∧nt.code=0∨∃ n,R = .error n∧nt=⟨3,n.1,n.2⟩)
 (hn:∀ s' X',SFt τ p (newsD x R) s'→nn X' s') :
 bwp Tryz.prog Ts37.t104_37 ((0,.ptr p 0)::(4,.ptr p4 0)::(5,.ptr p5 0)::(6,.int .u32 (firstF u.a.path).1)::(7,.bool (firstF u.a.path).2)::X) s nn rr xx:=by
 simp only [Ts37.t104_37]
 have l3:∀ n:Nt3,n.c.length=3:=fun _=>rfl
 have t3:∀ n:Nt3,List.take 3 n.c=n.c:=fun _=>rfl
 have f0:∀ n:Nt3,List.take 1 n.c=[.int .i64 n.code]:=fun _=>rfl
 have u1:List.take 1 (List.drop 1 u.c)=[.bool u.has]:=rfl
 have ul:u.c.length=12:=rfl
 have ut:List.take 12 u.c=u.c:=rfl
 simp only [T5,l3,f0,↓vcPre,↓z8,↓reduceIte,vcPost,vcStd,Nat.reduceEqDiff,reduceCtorEq,Nat.reduceAdd,Nat.reduceLeDiff,Int.reduceLT,Int.reduceLE,↓u_setN]
 refine ⟨fun c1 => ?_,fun c1 => ?_⟩
 ·simp only [T5,l3,t3,↓vcPre,↓z8,↓reduceIte,vcPost,vcStd,Nat.reduceEqDiff,reduceCtorEq,Nat.reduceAdd,Nat.reduceLeDiff,Int.reduceLT,Int.reduceLE,↓u_setN]
  refine (s51 h (by have:=hx.1;omega) (by have:=hx.2.1;omega) nt).Q ?_
  rintro r s' ⟨rfl,h'⟩
  simp only [↓vcPre,↓z8,↓reduceIte,vcPost,vcStd,Nat.reduceEqDiff,reduceCtorEq,Nat.reduceAdd,Nat.reduceLeDiff,Int.reduceLT,Int.reduceLE,↓u_setN]
  refine hn _ _ ?_
  rcases hR with ⟨rfl,h0⟩ | ⟨n,rfl,rfl⟩
  ·exact absurd h0 c1
  ·exact h'
 ·rcases hR with ⟨rfl,h0⟩ | ⟨n,rfl,rfl⟩
  case inr=>exact absurd (show (3:Int)=0 from c1) (by decide)
  have good:¬ (u.has=true∧x.1.peer≠x.1.asn∧((firstF u.a.path).2=false∨(firstF u.a.path).1≠x.1.peer))→newsD x (.ok u)=({ x.1 with silent:=0 },x.2.1,x.2.2++[.got u]):=fun h=>by simp only [newsD];rw [if_neg h]
  have bad:(u.has=true∧x.1.peer≠x.1.asn∧((firstF u.a.path).2=false∨(firstF u.a.path).1≠x.1.peer))→newsD x (.ok u)=endT x ⟨3,11,[]⟩:=fun h=>by simp only [newsD];rw [if_pos h]
  have hin:=s55 h
  have hS:=h
  obtain ⟨bv,ov,hv,hp,hSP⟩:=hS
  simp only [T4,ul,u1,↓vcPre,↓z8,↓reduceIte,vcPost,vcStd,Nat.reduceEqDiff,reduceCtorEq,Nat.reduceAdd,Nat.reduceLeDiff,Int.reduceLT,Int.reduceLE,↓u_setN]
  cases hh:u.has
  ·simp only [↓vcPre,↓z8,↓reduceIte,vcPost,vcStd,Nat.reduceEqDiff,reduceCtorEq,Nat.reduceAdd,Nat.reduceLeDiff,Int.reduceLT,Int.reduceLE,↓u_setN]
   exact z07 h hx T4 n4 _ fun s' X' h'=>hn _ _ (by rw [good (by rw [hh];simp)];exact h')
  ·simp only [↓vcPre,↓z8,↓reduceIte,vcPost,vcStd,Nat.reduceEqDiff,reduceCtorEq,Nat.reduceAdd,Nat.reduceLeDiff,Int.reduceLT,Int.reduceLE,↓u_setN]
   refine hin.Q ?_
   rintro r s ⟨rfl,rfl⟩
   by_cases hpe:x.1.peer=x.1.asn
   ·rw [decide_eq_true hpe]
    simp only [↓vcPre,↓z8,↓reduceIte,vcPost,vcStd,Nat.reduceEqDiff,reduceCtorEq,Nat.reduceAdd,Nat.reduceLeDiff,Int.reduceLT,Int.reduceLE,↓u_setN]
    exact z07 h hx T4 n4 _ fun s' X' h'=>hn _ _ (by rw [good (by simp [hpe])];exact h')
   ·rw [decide_eq_false hpe]
    have fail:=fun (hb:u.has=true∧x.1.peer≠x.1.asn∧((firstF u.a.path).2=false∨(firstF u.a.path).1≠x.1.peer))=>z0b (n:=⟨3,11,[]⟩) rfl (s51 h (by have:=hx.1;omega) (by have:=hx.2.1;omega) ⟨3,11,[]⟩)
    cases hf:(firstF u.a.path).2
    ·have hb:u.has=true∧x.1.peer≠x.1.asn∧((firstF u.a.path).2=false∨(firstF u.a.path).1≠x.1.peer):=⟨hh,hpe,.inl hf⟩
     simp only [↓vcPre,↓z8,↓reduceIte,vcPost,vcStd,Nat.reduceEqDiff,reduceCtorEq,Nat.reduceAdd,Nat.reduceLeDiff,Int.reduceLT,Int.reduceLE,↓u_setN]
     refine (fail hb).Q ?_
     rintro r s' ⟨rfl,h'⟩
     simp only [↓vcPre,↓z8,↓reduceIte,vcPost,vcStd,Nat.reduceEqDiff,reduceCtorEq,Nat.reduceAdd,Nat.reduceLeDiff,Int.reduceLT,Int.reduceLE,↓u_setN]
     exact hn _ _ (by rw [bad hb];exact h')
    ·simp only [hp,zx,sc3,↓vcPre,↓z8,↓reduceIte,vcPost,vcStd,Nat.reduceEqDiff,reduceCtorEq,Nat.reduceAdd,Nat.reduceLeDiff,Int.reduceLT,Int.reduceLE,↓u_setN]
     refine ⟨fun c => ?_,fun c => ?_⟩
     ·have hb:u.has=true∧x.1.peer≠x.1.asn∧((firstF u.a.path).2=false∨(firstF u.a.path).1≠x.1.peer):=⟨hh,hpe,.inr c⟩
      refine (fail hb).Q ?_
      rintro r s' ⟨rfl,h'⟩
      simp only [↓vcPre,↓z8,↓reduceIte,vcPost,vcStd,Nat.reduceEqDiff,reduceCtorEq,Nat.reduceAdd,Nat.reduceLeDiff,Int.reduceLT,Int.reduceLE,↓u_setN]
      exact hn _ _ (by rw [bad hb];exact h')
     ·exact z07 h hx T4 n4 _ fun s' X' h'=>hn _ _ (by rw [good (by rintro ⟨_,_,h⟩;rcases h with h | h <;> first | (rw [hf] at h;cases h) | exact h (by simpa using c))];exact h')
end
end Go.Am
