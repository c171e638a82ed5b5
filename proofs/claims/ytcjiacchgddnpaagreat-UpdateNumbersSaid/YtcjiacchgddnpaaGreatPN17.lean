/- A part of the proof: a logic for calls over plain values, and the functions that the law reaches, each walked once. -/
import Derived.Test.YtcjiacchgddnpaaGreatPN16
set_option linter.unusedVariables false
set_option linter.unusedSimpArgs false
set_option linter.unusedSectionVars false
namespace Go.Am
open Go.Proofs Go.Sort
def cutU (B:List Int):Option (List Int×List Int×List Int):=match B with
 | h::l::r=>if (r.length:Int)<h*256+l then none else match r.drop (h*256+l).toNat with
   | h2::l2::r2=>if (r2.length:Int)<h2*256+l2 then none else some (r.take (h*256+l).toNat,r2.take (h2*256+l2).toNat,r2.drop (h2*256+l2).toNat)
   | _=>none
 | _=>none
def chainU (B:List Int):List Int×List Int×List Int×Bool :=
 let a:=numM 2 B false
 let b:=rawM a.1 a.2.1 a.2.2
 let c:=numM 2 b.2.1 b.2.2
 let d:=rawM c.1 c.2.1 c.2.2
 (b.1,d.1,d.2.1,d.2.2)
theorem z2f {n:Int} {R:List Int} (h:(R.length:Int)<n):rawM n R false=([],R,true):=by
 unfold rawM;rw [if_pos (by right;omega)]
theorem z0v {B:List Int} (hu:U8s B):(cutU B=none∧(chainU B).2.2.2=true)∨∃ g a r,cutU B=some (g,a,r)∧chainU B=(g,a,r,false):=by
 match B,hu with
 | [],_=>left;exact ⟨rfl,by simp only [chainU];rw [wz (by simp)];simp only;rw [xr];simp only;rw [z04];simp only;rw [xr]⟩
 | [x],_=>left;exact ⟨rfl,by simp only [chainU];rw [wz (by simp)];simp only;rw [xr];simp only;rw [z04];simp only;rw [xr]⟩
 | h::l::r,hu =>
   have hh:=hu h (by simp)
   have hl:=hu l (by simp)
   simp only [chainU,cutU]
   rw [z18]
   simp only
   by_cases c:(r.length:Int)<h*256+l
   ·left
    rw [if_pos c,z2f c];simp only;rw [z04];simp only;rw [xr]
    exact ⟨trivial,rfl⟩
   ·rw [if_neg c,xt (by omega) c]
    simp only
    have hu2:U8s (r.drop (h*256+l).toNat):=fun x hx=>hu x (by simp [List.mem_of_mem_drop hx])
    generalize r.drop (h*256+l).toNat=r1 at hu2 ⊢
    match r1,hu2 with
    | [],_=>left;rw [wz (by simp)];simp only;rw [xr];exact ⟨trivial,rfl⟩
    | [x],_=>left;rw [wz (by simp)];simp only;rw [xr];exact ⟨trivial,rfl⟩
    | h2::l2::r2,hu2 =>
      have hh2:=hu2 h2 (by simp)
      have hl2:=hu2 l2 (by simp)
      rw [z18]
      simp only
      by_cases c2:(r2.length:Int)<h2*256+l2
      ·left;rw [if_pos c2,z2f c2];exact ⟨rfl,rfl⟩
      ·right
       rw [if_neg c2,xt (by omega) c2]
       exact ⟨_,_,_,rfl,rfl⟩
structure Up where
 w:List (Int×Int)
 has:Bool
 a:At
 n:List (Int×Int)
def zeroUp:Up:=⟨[],false,zeroAt,[]⟩
def Up.c (u:Up):List AV:=upC (.sl 2 (u.w.map pxC)) u.has u.a (.sl 2 (u.n.map pxC))
def decU (inner:Bool) (B:List Int):Except Nt Up:=match cutU B with
 | none => .error (1,[])
 | some (g,a,r)=>match dN g with
   | none => .error (10,[])
   | some w=>match decA inner a with
     | .error n => .error n
     | .ok (at_,ty)=>match dN r with
       | none => .error (10,[])
       | some n=>if n=[] then .ok ⟨w,false,zeroAt,[]⟩ else if lacksF ty inner=0 then .ok ⟨w,true,at_,n⟩ else .error (3,[lacksF ty inner])
def outU (x:Except Nt Up):AV:=match x with
 | .ok u => .tup [.agg u.c,.agg [.int .i64 0,.int .i64 0,.sl 1 []]]
 | .error n => .tup [.agg zeroUp.c,.agg [.int .i64 3,.int .i64 n.1,.sl 1 (n.2.map cB)]]
def zU:List AV:=[.nils,.bool false,.int .i64 0,.nils,.int .u32 0,.bool false,.int .u32 0,.bool false,.int .u32 0,.bool false,.nils,.nils]
theorem yd:[AV.nils,.bool false,.int .i64 0,.nils,.int .u32 0,.bool false,.int .u32 0,.bool false,.int .u32 0,.bool false,.nils,.nils]=zU:=rfl
theorem z1l:ImpL zU zeroUp.c :=
 show ImpL (AV.nils :: .bool false::(zC++[.nils])) (AV.sl 2 [] :: .bool false::(zeroAt.c++[.sl 2 []])) from .cons .nils (.cons (.refl rfl) (zC_imp.append (.cons .nils .nil)))
theorem z3d (ty:List Int) (inner:Bool):0≤lacksF ty inner∧lacksF ty inner≤5:=by
 unfold lacksF
 cases h:(mustF inner).find? (fun k => !decide (k ∈ ty)) with
 | none=>simp
 | some x =>
   have:=List.mem_of_find?_eq_some h
   unfold mustF at this
   cases inner <;> simp at this <;> simp <;> omega
set_option maxHeartbeats 2000000 in
theorem s24 {σ:Store} {B:List Int} {v:AV} (hr:Rd 1 σ (B.map cB) v) (hB:B.length≤1000000) (hu:U8s B) (inner:Bool):ACalls Tryz.prog 24 [v,.bool inner] σ (fun r s=>s=σ∧r=outU (decU inner B)):=by
 refine ze Ts2.F24 (by simp [Ts2.F24,Fn.mkX]) ?_
 simp only [Ts2.F24,Fn.mkX,Ts2.b24,yd,yw]
 simp only [↓vcPre,↓z0,↓reduceIte,vcPost,vcStd,Nat.reduceEqDiff,reduceCtorEq,Nat.reduceAdd,Nat.reduceLeDiff,Int.reduceLT,Int.reduceLE,↓u_setN]
 refine AllocQ.i0 fun p4 h4 => ?_
 simp only [↓vcPre,↓z0,↓reduceIte,vcPost,vcStd,Nat.reduceEqDiff,reduceCtorEq,Nat.reduceAdd,Nat.reduceLeDiff,Int.reduceLT,Int.reduceLE,↓u_setN]
 refine AllocQ.i1 fun p5 h54 h45 h5 => ?_
 simp only [↓vcPre,↓z0,↓reduceIte,vcPost,vcStd,Nat.reduceEqDiff,reduceCtorEq,Nat.reduceAdd,Nat.reduceLeDiff,Int.reduceLT,Int.reduceLE,↓u_setN]
 have hU:=zq (o := .box zU) (p := .box zN) h4 h5 h54
 have U5:((σ.set p4 (.box zU)).set p5 (.box zN)) p5=some (.box zN):=Store.set_same _ _ _
 have U4:((σ.set p4 (.box zU)).set p5 (.box zN)) p4=some (.box zU):=by rw [Store.set_ne _ _ h45];exact Store.set_same _ _ _
 generalize (σ.set p4 (.box zU)).set p5 (.box zN)=U at hU U4 U5 ⊢
 refine (s51 (hr.mono hU) (by omega)).Q ?_
 rintro r s ⟨id,rfl,h⟩
 simp only [↓vcPre,↓z0,↓reduceIte,vcPost,vcStd,Nat.reduceEqDiff,reduceCtorEq,Nat.reduceAdd,Nat.reduceLeDiff,Int.reduceLT,Int.reduceLE,↓u_setN]
 refine (s53 h (by omega) hu).Q ?_
 rintro r s1 ⟨rfl,k1⟩
 have b1:=yv (k:=2) (b:=false) hu
 simp only [↓vcPre,↓z0,↓reduceIte,vcPost,vcStd,Nat.reduceEqDiff,reduceCtorEq,Nat.reduceAdd,Nat.reduceLeDiff,Int.reduceLT,Int.reduceLE,↓u_setN]
 refine (s52 k1 (by omega) _).Q ?_
 rintro r s2 ⟨rfl,k2⟩
 have b2:=xe (n:=(numM 2 B false).1) (bad:=(numM 2 B false).2.2) b1.1
 have b2l:=rawM_len (n:=(numM 2 B false).1) (R:=(numM 2 B false).2.1) (bad:=(numM 2 B false).2.2)
 simp only [↓vcPre,↓z0,↓reduceIte,vcPost,vcStd,Nat.reduceEqDiff,reduceCtorEq,Nat.reduceAdd,Nat.reduceLeDiff,Int.reduceLT,Int.reduceLE,↓u_setN]
 refine (s53 k2 (by omega) b2.2).Q ?_
 rintro r s3 ⟨rfl,k3⟩
 simp only [↓vcPre,↓z0,↓reduceIte,vcPost,vcStd,Nat.reduceEqDiff,reduceCtorEq,Nat.reduceAdd,Nat.reduceLeDiff,Int.reduceLT,Int.reduceLE,↓u_setN]
 refine (s52 k3 (by have:=(yv (k:=2) (b:=(rawM (numM 2 B false).1 (numM 2 B false).2.1 (numM 2 B false).2.2).2.2) b2.2).2;omega) _).Q ?_
 rintro r s4 ⟨rfl,k4⟩
 obtain ⟨g,hg⟩:∃ x,x=(rawM (numM 2 B false).1 (numM 2 B false).2.1 (numM 2 B false).2.2):=⟨_,rfl⟩
 rw [←hg] at k4 b2 b2l ⊢
 have b3:=yv (k:=2) (b:=g.2.2) b2.2
 have b4:=xe (n:=(numM 2 g.2.1 g.2.2).1) (bad:=(numM 2 g.2.1 g.2.2).2.2) b3.1
 have b4l:=rawM_len (n:=(numM 2 g.2.1 g.2.2).1) (R:=(numM 2 g.2.1 g.2.2).2.1) (bad:=(numM 2 g.2.1 g.2.2).2.2)
 obtain ⟨a,ha⟩:∃ x,x=rawM (numM 2 g.2.1 g.2.2).1 (numM 2 g.2.1 g.2.2).2.1 (numM 2 g.2.1 g.2.2).2.2:=⟨_,rfl⟩
 rw [←ha] at k4 b4 b4l ⊢
 have hch:chainU B=(g.1,a.1,a.2.1,a.2.2):=by simp only [chainU,←hg,←ha]
 simp only [↓vcPre,↓z0,↓reduceIte,vcPost,vcStd,Nat.reduceEqDiff,reduceCtorEq,Nat.reduceAdd,Nat.reduceLeDiff,Int.reduceLT,Int.reduceLE,↓u_setN]
 refine (s54 k4).Q ?_
 rintro r s5 ⟨rfl,rfl⟩
 simp only [↓vcPre,↓z0,↓reduceIte,vcPost,vcStd,Nat.reduceEqDiff,reduceCtorEq,Nat.reduceAdd,Nat.reduceLeDiff,Int.reduceLT,Int.reduceLE,↓u_setN]
 refine (s52 k4 (by omega) _).Q ?_
 rintro r s6 ⟨rfl,k6⟩
 simp only [↓vcPre,↓z0,↓reduceIte,vcPost,vcStd,Nat.reduceEqDiff,reduceCtorEq,Nat.reduceAdd,Nat.reduceLeDiff,Int.reduceLT,Int.reduceLE,↓u_setN]
 refine (s55 k6).Q ?_
 rintro r s7 ⟨rfl,rfl⟩
 simp only [↓vcPre,↓z0,↓reduceIte,vcPost,vcStd,Nat.reduceEqDiff,reduceCtorEq,Nat.reduceAdd,Nat.reduceLeDiff,Int.reduceLT,Int.reduceLE,↓u_setN]
 have hs7:Store.sub σ s7:=Store.sub_trans hU k6.2.1
 have S4:=k6.2.1 _ _ U4
 have S5:=k6.2.1 _ _ U5
 have zl:zU.length=12:=rfl
 have zt:List.take 12 zU=zU:=rfl
 have szz:splice 0 zU zU=some zU:=rfl
 have szn:∀ x y z:AV,splice 0 [x,y,z] zN=some [x,y,z]:=fun _ _ _=>rfl
 have fin:∀ (T:Store) (cs ns:List AV),cs.length=12→ns.length=3→T p4=some (.box cs)→T p5=some (.box ns)→WeakL [.agg cs,.agg ns] T (fun l t=>t=σ ∧ .tup l=outU (decU inner B)) →
  @EndQ [(4,.ptr p4 0),(5,.ptr p5 0)] T ⟨Ts2.F24.slots,fun r s=>s=σ∧r=outU (decU inner B)⟩:=by
  intro T cs ns l1 l2 f4 f5 hW
  unfold EndQ
  refine ⟨.tup [.agg cs,.agg ns],?_,Weak.tup hW⟩
  show Env.res [(4,AV.ptr p4 0),(5,AV.ptr p5 0)] T [RS.c 4 12 true,RS.c 5 3 true]=_
  have e1:List.take 12 cs=cs:=List.take_of_length_le (by omega)
  have e2:List.take 3 ns=ns:=List.take_of_length_le (by omega)
  simp only [f4,f5,l1,l2,e1,e2,↓vcPre,↓z0,↓reduceIte,vcPost,vcStd,Nat.reduceEqDiff,reduceCtorEq,Nat.reduceAdd,Nat.reduceLeDiff,Int.reduceLT,Int.reduceLE,↓u_setN]
 have bad:∀ (T:Store) (n:Nt) (v:AV),Store.sub σ T→Imp v (.sl 1 (n.2.map cB))→decU inner B = .error n →
  @EndQ [(4,.ptr p4 0),(5,.ptr p5 0)] ((T.set p4 (.box zU)).set p5 (.box [.int .i64 3,.int .i64 n.1,v])) ⟨Ts2.F24.slots,fun r s=>s=σ∧r=outU (decU inner B)⟩:=by
  intro T n v hT hv hd
  refine fin _ zU [.int .i64 3,.int .i64 n.1,v] rfl rfl (by rw [Store.set_ne _ _ h45];exact Store.set_same _ _ _) (Store.set_same _ _ _) ?_
  refine WeakL.pos 0 rfl (Imp.agg z1l (WeakL.pos 1 rfl (Imp.agg (ds:=[.int .i64 3,.int .i64 n.1,.sl 1 (n.2.map cB)]) (.cons (.refl rfl) (.cons (.refl rfl) (.cons hv .nil))) (WeakL.forget (z8 (z8 hT h4) h5) (WeakL.pure ⟨rfl,?_⟩)))))
  simp only [List.set,hd,outU]
 rcases z0v hu with ⟨hc,hb⟩ | ⟨G,A,R,hc,hb⟩
 ·rw [hch] at hb
  simp only at hb
  have hd:decU inner B = .error (1,[]):=by unfold decU;rw [hc]
  rw [hb,xr]
  simp only [↓vcPre,↓z0,↓reduceIte,vcPost,vcStd,Nat.reduceEqDiff,reduceCtorEq,Nat.reduceAdd,Nat.reduceLeDiff,Int.reduceLT,Int.reduceLE,↓u_setN]
  refine (c56 1 .nils ⟨rfl,rfl⟩).Q ?_
  simp only [S4,S5,h54,h45,zl,szz,szn,↓vcPre,↓z0,↓reduceIte,vcPost,vcStd,Nat.reduceEqDiff,reduceCtorEq,Nat.reduceAdd,Nat.reduceLeDiff,Int.reduceLT,Int.reduceLE,↓u_setN]
  exact bad s7 (1,[]) .nils hs7 .nils hd
 ·rw [hch] at hb
  obtain ⟨rfl,rfl,rfl,hbb⟩:G=g.1∧A=a.1∧R=a.2.1∧a.2.2=false:=by
   simp only [Prod.mk.injEq] at hb
   exact ⟨hb.1.symm,hb.2.1.symm,hb.2.2.1.symm,hb.2.2.2⟩
  rw [hbb]
  have hfit:=xt (n:=(a.2.1.length:Int)) (R:=a.2.1) (by omega) (by omega)
  rw [Int.toNat_natCast,List.take_length] at hfit
  simp only [Bool.false_eq_true,if_false]
  rw [hfit]
  simp only [Ts2.t24_10,yd]
  clear hfit hb hch
  have lG:g.1.length≤1000000:=by omega
  have lA:a.1.length≤1000000:=by omega
  have lR:a.2.1.length≤1000000:=by omega
  have uG:=b2.1
  have uA:=b4.1
  have uR:=b4.2
  generalize g.1=G at lG uG hc ⊢
  generalize a.1=A at lA uA hc ⊢
  generalize a.2.1=R at lR uR hc ⊢
  have hd:decU inner B=match dN G with
   | none => .error (10,[])
   | some w=>match decA inner A with
     | .error n => .error n
     | .ok (at_,ty)=>match dN R with
       | none => .error (10,[])
       | some n=>if n=[] then .ok ⟨w,false,zeroAt,[]⟩ else if lacksF ty inner=0 then .ok ⟨w,true,at_,n⟩ else .error (3,[lacksF ty inner]):=by
   unfold decU;rw [hc]
  clear hc
  simp only [↓vcPre,↓z0,↓reduceIte,vcPost,vcStd,Nat.reduceEqDiff,reduceCtorEq,Nat.reduceAdd,Nat.reduceLeDiff,Int.reduceLT,Int.reduceLE,↓u_setN]
  refine AllocQ.i0 fun q hq => ?_
  simp only [↓vcPre,↓z0,↓reduceIte,vcPost,vcStd,Nat.reduceEqDiff,reduceCtorEq,Nat.reduceAdd,Nat.reduceLeDiff,Int.reduceLT,Int.reduceLE,↓u_setN]
  have hsq:=Store.sub_set s7 q (.box zU) hq
  have hq4:¬ p4=q:=fun e=>by rw [e,hq] at S4;cases S4
  have hq5:¬ p5=q:=fun e=>by rw [e,hq] at S5;cases S5
  refine (s57 (σ:=s7.set q (.box zU)) (B:=G) Rd.sl lG uG).Q ?_
  rintro r T ⟨rfl,rfl⟩
  have hσq:σ q=none:=zj hs7 hq
  cases hG:dN G with
  | none =>
    rw [hG] at hd
    simp only at hd
    simp only [outN,List.map_nil]
    have sp0:splice 0 [AV.sl 2 []] zU=some (AV.sl 2 []::zU.drop 1):=rfl
    simp only [zl,sp0,↓vcPre,↓z0,↓reduceIte,vcPost,vcStd,Nat.reduceEqDiff,reduceCtorEq,Nat.reduceAdd,Nat.reduceLeDiff,Int.reduceLT,Int.reduceLE,↓u_setN]
    refine (c56 10 .nils ⟨rfl,rfl⟩).Q ?_
    have T4:((s7.set q (.box zU)).set q (.box (AV.sl 2 []::zU.drop 1))) p4=some (.box zU):=by rw [Store.set_ne _ _ hq4,Store.set_ne _ _ hq4];exact S4
    have T5:((s7.set q (.box zU)).set q (.box (AV.sl 2 []::zU.drop 1))) p5=some (.box zN):=by rw [Store.set_ne _ _ hq5,Store.set_ne _ _ hq5];exact S5
    have hT:Store.sub σ ((s7.set q (.box zU)).set q (.box (AV.sl 2 []::zU.drop 1))):=z8 (z8 hs7 hσq) hσq
    generalize ((s7.set q (.box zU)).set q (.box (AV.sl 2 []::zU.drop 1)))=T at T4 T5 hT ⊢
    simp only [T4,T5,h54,h45,zl,szz,szn,↓vcPre,↓z0,↓reduceIte,vcPost,vcStd,Nat.reduceEqDiff,reduceCtorEq,Nat.reduceAdd,Nat.reduceLeDiff,Int.reduceLT,Int.reduceLE,↓u_setN]
    exact bad T (10,[]) .nils hT .nils hd
  | some w =>
    rw [hG] at hd
    simp only at hd
    simp only [outN]
    have sp0:∀ v,splice 0 [v] zU=some (v::zU.drop 1):=fun _=>rfl
    simp only [zl,sp0,↓vcPre,↓z0,↓reduceIte,vcPost,vcStd,Nat.reduceEqDiff,reduceCtorEq,Nat.reduceAdd,Nat.reduceLeDiff,Int.reduceLT,Int.reduceLE,↓u_setN]
    have T4:((s7.set q (.box zU)).set q (.box (AV.sl 2 (w.map pxC)::zU.drop 1))) p4=some (.box zU):=by rw [Store.set_ne _ _ hq4,Store.set_ne _ _ hq4];exact S4
    have T5:((s7.set q (.box zU)).set q (.box (AV.sl 2 (w.map pxC)::zU.drop 1))) p5=some (.box zN):=by rw [Store.set_ne _ _ hq5,Store.set_ne _ _ hq5];exact S5
    have Tq:((s7.set q (.box zU)).set q (.box (AV.sl 2 (w.map pxC)::zU.drop 1))) q=some (.box (AV.sl 2 (w.map pxC)::zU.drop 1)):=Store.set_same _ _ _
    have hT:Store.sub σ ((s7.set q (.box zU)).set q (.box (AV.sl 2 (w.map pxC)::zU.drop 1))):=z8 (z8 hs7 hσq) hσq
    generalize ((s7.set q (.box zU)).set q (.box (AV.sl 2 (w.map pxC)::zU.drop 1)))=T at T4 T5 Tq hT ⊢
    simp only [Ts2.t24_46,wi,yw,yd]
    have e9:∀ x:At,x.c.length=9:=fun _=>rfl
    have t9:∀ x:At,List.take 9 x.c=x.c:=fun _=>rfl
    have spZ:∀ x:At,splice 0 x.c zC=some x.c:=fun _=>rfl
    simp only [↓vcPre,↓z0,↓reduceIte,vcPost,vcStd,Nat.reduceEqDiff,reduceCtorEq,Nat.reduceAdd,Nat.reduceLeDiff,Int.reduceLT,Int.reduceLE,↓u_setN]
    refine (s28 (σ:=T) (B:=A) Rd.sl lA uA inner).Q ?_
    rintro r X ⟨rfl,rfl⟩
    cases hA:decA inner A with
    | error n =>
      rw [hA] at hd
      simp only at hd
      simp only [outD,List.map_nil]
      simp only [↓vcPre,↓z0,↓reduceIte,vcPost,vcStd,Nat.reduceEqDiff,reduceCtorEq,Nat.reduceAdd,Nat.reduceLeDiff,Int.reduceLT,Int.reduceLE,↓u_setN]
      refine AllocQ.i0 fun p12 h12 => ?_
      simp only [↓vcPre,↓z0,↓reduceIte,vcPost,vcStd,Nat.reduceEqDiff,reduceCtorEq,Nat.reduceAdd,Nat.reduceLeDiff,Int.reduceLT,Int.reduceLE,↓u_setN]
      refine AllocQ.i1 fun p14 h1412 h1214 h14 => ?_
      have n4a:¬ p4=p12:=fun e=>by rw [e,h12] at T4;cases T4
      have n4b:¬ p4=p14:=fun e=>by rw [e,h14] at T4;cases T4
      have n5a:¬ p5=p12:=fun e=>by rw [e,h12] at T5;cases T5
      have n5b:¬ p5=p14:=fun e=>by rw [e,h14] at T5;cases T5
      simp only [h1412,h1214,e9,spZ,szn,↓vcPre,↓z0,↓reduceIte,vcPost,vcStd,Nat.reduceEqDiff,reduceCtorEq,Nat.reduceAdd,Nat.reduceLeDiff,Int.reduceLT,Int.reduceLE,↓u_setN]
      have sV:Store.sub X ((((X.set p12 (.box zC)).set p14 (.box zN)).set p12 (.box zeroAt.c)).set p14 (.box [.int .i64 3,.int .i64 n.1,.sl 1 (n.2.map cB)])):=z8 (z8 (zq h12 h14 h1412) h12) h14
      have V14:((((X.set p12 (.box zC)).set p14 (.box zN)).set p12 (.box zeroAt.c)).set p14 (.box [.int .i64 3,.int .i64 n.1,.sl 1 (n.2.map cB)])) p14=some (.box [.int .i64 3,.int .i64 n.1,.sl 1 (n.2.map cB)]):=Store.set_same _ _ _
      have V4:((((X.set p12 (.box zC)).set p14 (.box zN)).set p12 (.box zeroAt.c)).set p14 (.box [.int .i64 3,.int .i64 n.1,.sl 1 (n.2.map cB)])) p4=some (.box zU):=sV _ _ T4
      have V5:=sV _ _ T5
      generalize ((((X.set p12 (.box zC)).set p14 (.box zN)).set p12 (.box zeroAt.c)).set p14 (.box [.int .i64 3,.int .i64 n.1,.sl 1 (n.2.map cB)]))=V at sV V14 V4 V5 ⊢
      have n14:¬ p14=p4:=fun e=>n4b e.symm
      simp only [V14,V4,V5,h54,h45,zl,szz,szn,n14,↓vcPre,↓z0,↓reduceIte,vcPost,vcStd,Nat.reduceEqDiff,reduceCtorEq,Nat.reduceAdd,Nat.reduceLeDiff,Int.reduceLT,Int.reduceLE,↓u_setN]
      have E:=bad V n (.sl 1 (n.2.map cB)) (Store.sub_trans hT sV) (.refl rfl) hd
      exact ⟨fun _=>⟨E,E⟩,fun h=>absurd h (by decide)⟩
    | ok x =>
      obtain ⟨a',ty⟩:=x
      rw [hA] at hd
      simp only at hd
      have hty:ty.length≤1000000:=by
       obtain ⟨A',T',p,q',M,h1,h2,h3⟩:=z2e inner uA lA
       rw [hA] at h3
       simp only [outD,AV.tup.injEq,List.cons.injEq,AV.sl.injEq,true_and] at h3
       have:=congrArg List.length h3.2.1
       simp only [List.length_map] at this
       omega
      simp only [outD,List.map_nil]
      simp only [↓vcPre,↓z0,↓reduceIte,vcPost,vcStd,Nat.reduceEqDiff,reduceCtorEq,Nat.reduceAdd,Nat.reduceLeDiff,Int.reduceLT,Int.reduceLE,↓u_setN]
      refine AllocQ.i0 fun p12 h12 => ?_
      simp only [↓vcPre,↓z0,↓reduceIte,vcPost,vcStd,Nat.reduceEqDiff,reduceCtorEq,Nat.reduceAdd,Nat.reduceLeDiff,Int.reduceLT,Int.reduceLE,↓u_setN]
      refine AllocQ.i1 fun p14 h1412 h1214 h14 => ?_
      simp only [h1412,h1214,e9,spZ,szn,↓vcPre,↓z0,↓reduceIte,vcPost,vcStd,Nat.reduceEqDiff,reduceCtorEq,Nat.reduceAdd,Nat.reduceLeDiff,Int.reduceLT,Int.reduceLE,↓u_setN]
      have sV:Store.sub X ((((X.set p12 (.box zC)).set p14 (.box zN)).set p12 (.box a'.c)).set p14 (.box [.int .i64 0,.int .i64 0,.sl 1 []])):=z8 (z8 (zq h12 h14 h1412) h12) h14
      have V14:((((X.set p12 (.box zC)).set p14 (.box zN)).set p12 (.box a'.c)).set p14 (.box [.int .i64 0,.int .i64 0,.sl 1 []])) p14=some (.box [.int .i64 0,.int .i64 0,.sl 1 []]):=Store.set_same _ _ _
      have V12:((((X.set p12 (.box zC)).set p14 (.box zN)).set p12 (.box a'.c)).set p14 (.box [.int .i64 0,.int .i64 0,.sl 1 []])) p12=some (.box a'.c):=by rw [Store.set_ne _ _ h1214];exact Store.set_same _ _ _
      have V4:=sV _ _ T4
      have V5:=sV _ _ T5
      have Vq:=sV _ _ Tq
      have hqX:¬ p12=q:=fun e=>by rw [e,Tq] at h12;cases h12
      generalize ((((X.set p12 (.box zC)).set p14 (.box zN)).set p12 (.box a'.c)).set p14 (.box [.int .i64 0,.int .i64 0,.sl 1 []]))=V at sV V14 V12 V4 V5 Vq ⊢
      have hσV:=Store.sub_trans hT sV
      simp only [Ts2.t24_58,yd]
      simp only [↓vcPre,↓z0,↓reduceIte,vcPost,vcStd,Nat.reduceEqDiff,reduceCtorEq,Nat.reduceAdd,Nat.reduceLeDiff,Int.reduceLT,Int.reduceLE,↓u_setN]
      refine (s57 (σ:=V) (B:=R) Rd.sl lR uR).Q ?_
      rintro r W ⟨rfl,rfl⟩
      have sp11:∀ v u,splice 11 [v] (u::zU.drop 1)=some (upC u false zeroAt v |> fun _=>u :: .bool false::(zC++[v])):=fun _ _=>rfl
      cases hR:dN R with
      | none =>
        rw [hR] at hd
        simp only at hd
        simp only [outN,List.map_nil]
        simp only [Vq,zl,sp11,↓vcPre,↓z0,↓reduceIte,vcPost,vcStd,Nat.reduceEqDiff,reduceCtorEq,Nat.reduceAdd,Nat.reduceLeDiff,Int.reduceLT,Int.reduceLE,↓u_setN]
        refine (c56 10 .nils ⟨rfl,rfl⟩).Q ?_
        have W4:=(Store.set_ne W (.box (AV.sl 2 (w.map pxC) :: .bool false::(zC++[.sl 2 []]))) hq4).trans V4
        have W5:=(Store.set_ne W (.box (AV.sl 2 (w.map pxC) :: .bool false::(zC++[.sl 2 []]))) hq5).trans V5
        have hW:=z8 (o := .box (AV.sl 2 (w.map pxC) :: .bool false::(zC++[.sl 2 []]))) hσV hσq
        generalize W.set q (.box (AV.sl 2 (w.map pxC) :: .bool false::(zC++[.sl 2 []])))=Y at W4 W5 hW ⊢
        simp only [W4,W5,h54,h45,zl,szz,szn,↓vcPre,↓z0,↓reduceIte,vcPost,vcStd,Nat.reduceEqDiff,reduceCtorEq,Nat.reduceAdd,Nat.reduceLeDiff,Int.reduceLT,Int.reduceLE,↓u_setN]
        exact bad Y (10,[]) .nils hW .nils hd
      | some nl =>
        rw [hR] at hd
        simp only at hd
        simp only [outN]
        simp only [Vq,zl,sp11,↓vcPre,↓z0,↓reduceIte,vcPost,vcStd,Nat.reduceEqDiff,reduceCtorEq,Nat.reduceAdd,Nat.reduceLeDiff,Int.reduceLT,Int.reduceLE,↓u_setN]
        have W4:=(Store.set_ne W (.box (AV.sl 2 (w.map pxC) :: .bool false::(zC++[.sl 2 (nl.map pxC)]))) hq4).trans V4
        have W5:=(Store.set_ne W (.box (AV.sl 2 (w.map pxC) :: .bool false::(zC++[.sl 2 (nl.map pxC)]))) hq5).trans V5
        have W12:=(Store.set_ne W (.box (AV.sl 2 (w.map pxC) :: .bool false::(zC++[.sl 2 (nl.map pxC)]))) hqX).trans V12
        have Wq:(W.set q (.box (AV.sl 2 (w.map pxC) :: .bool false::(zC++[.sl 2 (nl.map pxC)])))) q=some (.box (AV.sl 2 (w.map pxC) :: .bool false::(zC++[.sl 2 (nl.map pxC)]))):=Store.set_same _ _ _
        have hW:=z8 (o := .box (AV.sl 2 (w.map pxC) :: .bool false::(zC++[.sl 2 (nl.map pxC)]))) hσV hσq
        generalize W.set q (.box (AV.sl 2 (w.map pxC) :: .bool false::(zC++[.sl 2 (nl.map pxC)])))=Y at W4 W5 W12 Wq hW ⊢
        simp only [Ts2.t24_67,yd,yw]
        have q9:∀ (u:AV),List.take 1 (List.drop 9 (zC++[u]))=[u]:=fun _=>rfl
        have l10:∀ u:AV,List.take 10 (zC++[u])=zC++[u]:=fun _=>rfl
        have z10:∀ u:AV,(zC++[u]).length=10:=fun _=>rfl
        have s12:∀ l:List AV,l.length=12→splice 0 l zU=some l:=fun l h=>yg _ _ (by rw [h];rfl)
        have sA:=s12 (AV.sl 2 (w.map pxC) :: .bool false::(zC++[.sl 2 (nl.map pxC)])) rfl
        have zn:zN.length=3:=rfl
        have snn:splice 0 zN zN=some zN:=rfl
        have uC:∀ (b:Bool) (x:At),upC (.sl 2 (w.map pxC)) b x (.sl 2 (nl.map pxC))=(⟨w,b,x,nl⟩:Up).c:=fun _ _=>rfl
        simp only [Wq,q9,l10,z10,W4,W5,h54,h45,sA,zn,snn,↓vcPre,↓z0,↓reduceIte,vcPost,vcStd,Nat.reduceEqDiff,reduceCtorEq,Nat.reduceAdd,Nat.reduceLeDiff,Int.reduceLT,Int.reduceLE,↓u_setN]
        refine ⟨fun c1 => ?_,fun c1 => ?_⟩
        ·have hn0:nl=[]:=by cases nl with | nil=>rfl | cons x l=>simp at c1;omega
         rw [if_pos hn0] at hd
         refine fin _ (AV.sl 2 (w.map pxC) :: .bool false::(zC++[.sl 2 (nl.map pxC)])) zN rfl rfl (by rw [Store.set_ne _ _ h45];exact Store.set_same _ _ _) (Store.set_same _ _ _) ?_
         refine WeakL.pos 0 rfl (Imp.agg (ds:=(⟨w,false,zeroAt,[]⟩:Up).c) ?_ (WeakL.pos 1 rfl (Imp.agg (ds:=[.int .i64 0,.int .i64 0,.sl 1 []]) (.cons (.refl rfl) (.cons (.refl rfl) (.cons .nils .nil))) (WeakL.forget (z8 (z8 hW h4) h5) (WeakL.pure ⟨rfl,?_⟩)))))
         ·rw [hn0]
          exact show ImpL (AV.sl 2 (w.map pxC) :: .bool false::(zC++[.sl 2 []])) (AV.sl 2 (w.map pxC) :: .bool false::(zeroAt.c++[.sl 2 []])) from .cons (.refl rfl) (.cons (.refl rfl) (zC_imp.append (.cons (.refl rfl) .nil)))
         ·simp only [List.set,hd,outU]
        ·have hn0:nl≠[]:=fun e=>by rw [e] at c1;simp at c1
         rw [if_neg hn0] at hd
         simp only [Ts2.t24_73,yd]
         simp only [↓vcPre,↓z0,↓reduceIte,vcPost,vcStd,Nat.reduceEqDiff,reduceCtorEq,Nat.reduceAdd,Nat.reduceLeDiff,Int.reduceLT,Int.reduceLE,↓u_setN]
         refine (c58 ty hty inner).Q ?_
         simp only [↓vcPre,↓z0,↓reduceIte,vcPost,vcStd,Nat.reduceEqDiff,reduceCtorEq,Nat.reduceAdd,Nat.reduceLeDiff,Int.reduceLT,Int.reduceLE,↓u_setN]
         obtain ⟨g0,g5⟩:=z3d ty inner
         refine ⟨fun c2 => ?_,fun c2 => ?_⟩
         ·rw [if_neg (by omega)] at hd
          have w8:IntKind.u8.wrap (lacksF ty inner)=lacksF ty inner:=by simp [IntKind.wrap,IntKind.bits,IntKind.signed];omega
          refine AllocQ.i0 fun d hd' => ?_
          simp only [w8,↓vcPre,↓z0,↓reduceIte,vcPost,vcStd,Nat.reduceEqDiff,reduceCtorEq,Nat.reduceAdd,Nat.reduceLeDiff,Int.reduceLT,Int.reduceLE,↓u_setN]
          have hsd:=Store.sub_set Y d (.arr 1 [[.int .u8 (lacksF ty inner)]]) hd'
          have Dd:(Y.set d (.arr 1 [[.int .u8 (lacksF ty inner)]])) d=some (.arr 1 [[.int .u8 (lacksF ty inner)]]):=Store.set_same _ _ _
          have D4:=hsd _ _ W4
          have D5:=hsd _ _ W5
          have hσd:σ d=none:=zj hW hd'
          have hd4:¬ d=p4:=fun e=>by rw [e,W4] at hd';cases hd'
          have hd5:¬ d=p5:=fun e=>by rw [e,W5] at hd';cases hd'
          have hDs:=Store.sub_trans hW hsd
          generalize Y.set d (.arr 1 [[.int .u8 (lacksF ty inner)]])=D at Dd D4 D5 hDs ⊢
          refine (c56 3 (.os d 1 0 1) ⟨rfl,rfl⟩).Q ?_
          simp only [D4,D5,h54,h45,zl,szz,szn,↓vcPre,↓z0,↓reduceIte,vcPost,vcStd,Nat.reduceEqDiff,reduceCtorEq,Nat.reduceAdd,Nat.reduceLeDiff,Int.reduceLT,Int.reduceLE,↓u_setN]
          refine fin _ zU [.int .i64 3,.int .i64 3,.os d 1 0 1] rfl rfl (by rw [Store.set_ne _ _ h45];exact Store.set_same _ _ _) (Store.set_same _ _ _) ?_
          have Ed:((D.set p4 (.box zU)).set p5 (.box [.int .i64 3,.int .i64 3,.os d 1 0 1])) d=some (.arr 1 [[.int .u8 (lacksF ty inner)]]):=by rw [Store.set_ne _ _ hd5,Store.set_ne _ _ hd4];exact Dd
          have hE:Store.sub σ ((D.set p4 (.box zU)).set p5 (.box [.int .i64 3,.int .i64 3,.os d 1 0 1])):=z8 (z8 hDs h4) h5
          generalize (D.set p4 (.box zU)).set p5 (.box [.int .i64 3,.int .i64 3,.os d 1 0 1])=E at Ed hE ⊢
          refine WeakL.pos 0 rfl (Imp.agg z1l (WeakL.pos 1 rfl (Weak.agg (WeakL.freeze 2 rfl Ed (by simp) (WeakL.pure ⟨?_,WeakL.forget (sub_del hE hσd) (WeakL.pure ⟨rfl,?_⟩)⟩)))))
          ·simp [AV.flat]
          ·simp only [List.set,hd,outU];rfl
         ·have e0:lacksF ty inner=0:=by omega
          rw [if_pos e0] at hd
          simp only [Ts2.t24_84,yd,yw]
          have k1:∀ (v u:AV),splice 1 [.bool true] (v :: .bool false::(zC++[u]))=some (v :: .bool true::(zC++[u])):=fun _ _=>rfl
          have k2:∀ (v u:AV),splice 2 a'.c (v :: .bool true::(zC++[u]))=some (v :: .bool true::(a'.c++[u])):=fun _ _=>rfl
          have l10':∀ u:AV,List.take 10 (a'.c++[u])=a'.c++[u]:=fun _=>rfl
          have a10:∀ u:AV,(a'.c++[u]).length=10:=fun _=>rfl
          have sB:=s12 (AV.sl 2 (w.map pxC) :: .bool true::(a'.c++[.sl 2 (nl.map pxC)])) rfl
          simp only [W12,Wq,e9,t9,Nat.le_refl,k1,k2,l10',a10,hq4,hq5,hqX,W4,W5,h54,h45,sB,zn,snn,↓vcPre,↓z0,↓reduceIte,vcPost,vcStd,Nat.reduceEqDiff,reduceCtorEq,Nat.reduceAdd,Nat.reduceLeDiff,Int.reduceLT,Int.reduceLE,↓u_setN]
          have fini:∀ T:Store,T p4=some (.box (⟨w,true,a',nl⟩:Up).c)→T p5=some (.box zN)→Store.sub σ T → @EndQ [(4,.ptr p4 0),(5,.ptr p5 0)] T ⟨Ts2.F24.slots,fun r s=>s=σ∧r=outU (decU inner B)⟩:=by
           intro T f4 f5 hT'
           refine fin T _ zN rfl rfl f4 f5 ?_
           refine WeakL.pos 1 rfl (Imp.agg (ds:=[.int .i64 0,.int .i64 0,.sl 1 []]) (.cons (.refl rfl) (.cons (.refl rfl) (.cons .nils .nil))) (WeakL.forget hT' (WeakL.pure ⟨rfl,?_⟩)))
           simp only [List.set,hd,outU]
          have hf:=fini ((((Y.set q (.box (AV.sl 2 (w.map pxC) :: .bool true::(zC++[.sl 2 (nl.map pxC)])))).set q (.box (AV.sl 2 (w.map pxC) :: .bool true::(a'.c++[.sl 2 (nl.map pxC)])))).set p4 (.box (AV.sl 2 (w.map pxC) :: .bool true::(a'.c++[.sl 2 (nl.map pxC)])))).set p5 (.box zN)) (by rw [Store.set_ne _ _ h45];exact Store.set_same _ _ _) (Store.set_same _ _ _) (z8 (z8 (z8 (z8 hW hσq) hσq) h4) h5)
          first | exact ⟨hf,hf⟩ | exact hf
end Go.Am
namespace Go.Am
open Go.Proofs Go.Sort
def u16 (n:Nat):List Int:=[(n:Int) / 256 % 256,(n:Int) % 256]
end Go.Am
namespace Go.Am.Ts3
open Go.Proofs Go.Am.B
def b5:BC:=z [⟨some 2,none,.alloc (.box),[.t 0]⟩,k 4 (.bool false)] [1,2] (z [⟨some 12,none,.load (.ld 14 true),[.t 2]⟩,g 13 19 [.t 12],⟨some 5,none,.alloc (.alloc [.nils,(.bool false),(.int .i64 0),.nils,(.int .u32 0),(.bool false),(.int .u32 0),(.bool false),(.int .u32 0),(.bool false),.nils,.nils]),[]⟩,s 12 5 13] [1,2,5] (z [f 14 5 2,⟨some 15,none,.load (.ld 9 true),[.t 14]⟩,g 16 13 [.t 15],g 17 12 [.t 16],g 18 11 [.t 17],m 6 18] [1,5,6] (z [f 20 0 5,l 21 1 20,g 22 22 [.t 21],m 19 22,e 23 0 19,e 24 1 19,m 7 23,m 8 24] [1,5,6,7] (z [m 25 7,u 26 .len 25,g 27 23 [.c .nils,.t 26],m 28 7,⟨some 29,none,.loud (.app 1 1),[.t 27,.t 28]⟩,m 9 29] [1,5,6,9] (z [m 30 9,m 31 6,u 32 .len 31,g 33 23 [.t 30,.t 32],m 34 6,⟨some 35,none,.loud (.app 1 1),[.t 33,.t 34]⟩,m 9 35] [1,5,9] (z [m 37 9,m 38 1,g 39 24 [.t 37,.t 38],m 36 39,e 40 0 36,e 41 1 36,⟨some 10,none,.alloc (.alloc [.nils,(.bool false),(.int .i64 0),.nils,(.int .u32 0),(.bool false),(.int .u32 0),(.bool false),(.int .u32 0),(.bool false),.nils,.nils]),[]⟩,⟨some 11,none,.alloc (.alloc [(.int .i64 0),(.int .i64 0),.nils]),[]⟩,s 12 10 40,s 3 11 41] [5,10,11] (z [f 42 0 11,l 43 1 42,c 44 .eql 43 0,m 45 44,⟨some 46,some (45,true),.pure (.fld 0),[.t 10]⟩,⟨some 47,some (45,true),.load (.ld 1 false),[.t 46]⟩,⟨some 48,some (45,true),.pure (.fld 0),[.t 5]⟩,⟨some 49,some (45,true),.load (.ld 1 false),[.t 48]⟩,⟨some 50,some (45,true),.loud (.call 25),[.t 47,.t 49]⟩,⟨some 51,none,.pick,[.t 45,.t 50,.c (.bool false)]⟩,m 52 51,⟨some 53,some (52,true),.pure (.fld 1),[.t 10]⟩,⟨some 54,some (52,true),.load (.ld 1 false),[.t 53]⟩,⟨some 55,some (52,true),.pure (.not),[.t 54]⟩,⟨some 56,none,.pick,[.t 52,.t 55,.c (.bool false)]⟩,m 57 56,⟨some 58,some (57,true),.pure (.fld 11),[.t 10]⟩,⟨some 59,some (57,true),.load (.ld 1 false),[.t 58]⟩,⟨some 60,some (57,true),.pure (.len),[.t 59]⟩,⟨some 61,some (57,true),.pure (.bin .eql),[.t 60,.c (.int .i64 0)]⟩,⟨some 62,none,.pick,[.t 57,.t 61,.c (.bool false)]⟩,m 63 62,⟨some 64,some (63,true),.pure (.fld 2),[.t 10]⟩,⟨some 65,some (63,true),.load (.ld 9 true),[.t 64]⟩,⟨some 66,some (63,true),.pure (.build [(.int .i64 0),.nils,(.int .u32 0),(.bool false),(.int .u32 0),(.bool false),(.int .u32 0),(.bool false),.nils] []),[]⟩,⟨some 67,some (63,true),.loud (.call 26),[.t 65,.t 66]⟩,⟨some 68,none,.pick,[.t 63,.t 67,.c (.bool false)]⟩,m 69 68,⟨some 70,some (69,true),.loud (.call 21),[]⟩,⟨some 71,none,.pick,[.t 69,.t 70,.c (.bool false)]⟩,m 4 71] [4] .ret)))))))
def F5:Fn Tryz.prog 5:=Fn.mkX false b5 [.t 4] 72 Tryz.f5 _ Tryz.func5 (by decide) rfl Tryz.ntmps5 (by kernel_rfl) (by kernel_rfl)
end Go.Am.Ts3
namespace Go.Am
open Go.Proofs Go.Sort
theorem z33 (inner:Bool):decA inner [] = .ok (canonA zeroAt,[]):=by rw [z9h,z82];simp
theorem k9a (inner:Bool):decU inner [0,0,0,0] = .ok ⟨[],false,zeroAt,[]⟩:=by
 unfold decU
 rw [show cutU [0,0,0,0]=some ([],[],[]) from rfl]
 simp only [vq,z33,if_true]
theorem k9b (inner:Bool):decU inner [0] = .error (1,[]):=rfl
theorem k9c:decU false [0,0,0,0,8,10] = .error (3,[1]):=by
 unfold decU
 rw [show cutU [0,0,0,0,8,10]=some ([],[],[8,10]) from rfl]
 have h:dN [8,10]=some [ofF (val4 [10]) 8]:=by
  rw [xw,if_neg (by decide),if_neg (by decide)]
  rw [show ([10]:List Int).drop (szN 8)=[] from rfl,vq];rfl
 simp only [vq,z33,h]
 rw [if_neg (by simp),if_neg (by decide)]
 rfl
theorem zw (u:Up):u.c.length=12:=rfl
theorem z5q (u:Up):splice 0 u.c zU=some u.c:=yg _ _ rfl
set_option maxHeartbeats 1000000 in
theorem c21:Pur Tryz.prog 21 [] (.bool true):=by
 refine zo Tst.F21 (by simp [Tst.F21,Fn.mkX]) fun σ => ?_
 simp only [Tst.F21,Fn.mkX,Tst.b21,yd,yw]
 have szn:∀ x y z:AV,splice 0 [x,y,z] zN=some [x,y,z]:=fun _ _ _=>rfl
 have u4:U8s [0,0,0,0]:=by intro x hx;simp at hx;omega
 have u1:U8s [0]:=by intro x hx;simp at hx;omega
 have u6:U8s [0,0,0,0,8,10]:=by intro x hx;simp at hx;omega
 simp only [z1j,↓vcPre,↓z0,↓reduceIte,vcPost,vcStd,Nat.reduceEqDiff,reduceCtorEq,Nat.reduceAdd,Nat.reduceLeDiff,Int.reduceLT,Int.reduceLE,↓u_setN]
 refine AllocQ.i0 fun q1 hq1 => ?_
 simp only [↓vcPre,↓z0,↓reduceIte,vcPost,vcStd,Nat.reduceEqDiff,reduceCtorEq,Nat.reduceAdd,Nat.reduceLeDiff,Int.reduceLT,Int.reduceLE,↓u_setN]
 have sT:=Store.sub_set σ q1 (.arr 1 [[.int .u8 0],[.int .u8 0],[.int .u8 0],[.int .u8 0]]) hq1
 have T1:(σ.set q1 (.arr 1 [[.int .u8 0],[.int .u8 0],[.int .u8 0],[.int .u8 0]])) q1=some (.arr 1 (([0,0,0,0]:List Int).map cB)):=Store.set_same _ _ _
 generalize σ.set q1 (.arr 1 [[.int .u8 0],[.int .u8 0],[.int .u8 0],[.int .u8 0]])=T at sT T1 ⊢
 have D1:=s24 (Rd.os T1) (by simp) u4 false
 rw [k9a] at D1
 refine D1.Q ?_
 rintro r t ⟨rfl,rfl⟩
 simp only [outU]
 simp only [↓vcPre,↓z0,↓reduceIte,vcPost,vcStd,Nat.reduceEqDiff,reduceCtorEq,Nat.reduceAdd,Nat.reduceLeDiff,Int.reduceLT,Int.reduceLE,↓u_setN]
 refine AllocQ.i0 fun p1 hp1 => ?_
 simp only [↓vcPre,↓z0,↓reduceIte,vcPost,vcStd,Nat.reduceEqDiff,reduceCtorEq,Nat.reduceAdd,Nat.reduceLeDiff,Int.reduceLT,Int.reduceLE,↓u_setN]
 refine AllocQ.i1 fun p2 h21 h12 hp2 => ?_
 simp only [h21,h12,zw,z5q,szn,↓vcPre,↓z0,↓reduceIte,vcPost,vcStd,Nat.reduceEqDiff,reduceCtorEq,Nat.reduceAdd,Nat.reduceLeDiff,Int.reduceLT,Int.reduceLE,↓u_setN]
 have sU:Store.sub t ((((t.set p1 (.box zU)).set p2 (.box zN)).set p1 (.box (⟨[],false,zeroAt,[]⟩:Up).c)).set p2 (.box [.int .i64 0,.int .i64 0,.sl 1 []])):=z8 (z8 (zq hp1 hp2 h21) hp1) hp2
 have U2:((((t.set p1 (.box zU)).set p2 (.box zN)).set p1 (.box (⟨[],false,zeroAt,[]⟩:Up).c)).set p2 (.box [.int .i64 0,.int .i64 0,.sl 1 []])) p2=some (.box [.int .i64 0,.int .i64 0,.sl 1 []]):=Store.set_same _ _ _
 have U1:((((t.set p1 (.box zU)).set p2 (.box zN)).set p1 (.box (⟨[],false,zeroAt,[]⟩:Up).c)).set p2 (.box [.int .i64 0,.int .i64 0,.sl 1 []])) p1=some (.box (⟨[],false,zeroAt,[]⟩:Up).c):=by rw [Store.set_ne _ _ h12];exact Store.set_same _ _ _
 generalize ((((t.set p1 (.box zU)).set p2 (.box zN)).set p1 (.box (⟨[],false,zeroAt,[]⟩:Up).c)).set p2 (.box [.int .i64 0,.int .i64 0,.sl 1 []]))=U at sU U1 U2 ⊢
 have mk1:alv (.mksl 1 1) [.int .u8 0]=some (.arr 1 [[.int .u8 0]],fun id => .os id 1 0 1):=rfl
 refine AllocQ.i0 fun q2 hq2 => ?_
 simp only [↓vcPre,↓z0,↓reduceIte,vcPost,vcStd,Nat.reduceEqDiff,reduceCtorEq,Nat.reduceAdd,Nat.reduceLeDiff,Int.reduceLT,Int.reduceLE,↓u_setN]
 have sV:=Store.sub_set U q2 (.arr 1 [[.int .u8 0]]) hq2
 have V1:(U.set q2 (.arr 1 [[.int .u8 0]])) q2=some (.arr 1 (([0]:List Int).map cB)):=Store.set_same _ _ _
 generalize U.set q2 (.arr 1 [[.int .u8 0]])=V at sV V1 ⊢
 have D2:=s24 (Rd.os V1) (by simp) u1 false
 rw [k9b] at D2
 refine D2.Q ?_
 rintro r w ⟨rfl,rfl⟩
 simp only [outU,List.map_nil]
 simp only [↓vcPre,↓z0,↓reduceIte,vcPost,vcStd,Nat.reduceEqDiff,reduceCtorEq,Nat.reduceAdd,Nat.reduceLeDiff,Int.reduceLT,Int.reduceLE,↓u_setN]
 refine AllocQ.i0 fun p3 hp3 => ?_
 simp only [↓vcPre,↓z0,↓reduceIte,vcPost,vcStd,Nat.reduceEqDiff,reduceCtorEq,Nat.reduceAdd,Nat.reduceLeDiff,Int.reduceLT,Int.reduceLE,↓u_setN]
 refine AllocQ.i1 fun p4 h43 h34 hp4 => ?_
 simp only [h43,h34,zw,z5q,szn,↓vcPre,↓z0,↓reduceIte,vcPost,vcStd,Nat.reduceEqDiff,reduceCtorEq,Nat.reduceAdd,Nat.reduceLeDiff,Int.reduceLT,Int.reduceLE,↓u_setN]
 have sW:Store.sub w ((((w.set p3 (.box zU)).set p4 (.box zN)).set p3 (.box zeroUp.c)).set p4 (.box [.int .i64 3,.int .i64 1,.sl 1 []])):=z8 (z8 (zq hp3 hp4 h43) hp3) hp4
 have W4:((((w.set p3 (.box zU)).set p4 (.box zN)).set p3 (.box zeroUp.c)).set p4 (.box [.int .i64 3,.int .i64 1,.sl 1 []])) p4=some (.box [.int .i64 3,.int .i64 1,.sl 1 []]):=Store.set_same _ _ _
 generalize ((((w.set p3 (.box zU)).set p4 (.box zN)).set p3 (.box zeroUp.c)).set p4 (.box [.int .i64 3,.int .i64 1,.sl 1 []]))=W at sW W4 ⊢
 have m6:alv (.mksl 1 6) [.int .u8 0,.int .u8 0,.int .u8 0,.int .u8 0,.int .u8 8,.int .u8 10]=some (.arr 1 [[.int .u8 0],[.int .u8 0],[.int .u8 0],[.int .u8 0],[.int .u8 8],[.int .u8 10]],fun id => .os id 1 0 6):=rfl
 simp only [m6,↓vcPre,↓z0,↓reduceIte,vcPost,vcStd,Nat.reduceEqDiff,reduceCtorEq,Nat.reduceAdd,Nat.reduceLeDiff,Int.reduceLT,Int.reduceLE,↓u_setN]
 refine AllocQ.i0 fun q3 hq3 => ?_
 simp only [↓vcPre,↓z0,↓reduceIte,vcPost,vcStd,Nat.reduceEqDiff,reduceCtorEq,Nat.reduceAdd,Nat.reduceLeDiff,Int.reduceLT,Int.reduceLE,↓u_setN]
 have sX:=Store.sub_set W q3 (.arr 1 [[.int .u8 0],[.int .u8 0],[.int .u8 0],[.int .u8 0],[.int .u8 8],[.int .u8 10]]) hq3
 have X1:(W.set q3 (.arr 1 [[.int .u8 0],[.int .u8 0],[.int .u8 0],[.int .u8 0],[.int .u8 8],[.int .u8 10]])) q3=some (.arr 1 (([0,0,0,0,8,10]:List Int).map cB)):=Store.set_same _ _ _
 generalize W.set q3 (.arr 1 [[.int .u8 0],[.int .u8 0],[.int .u8 0],[.int .u8 0],[.int .u8 8],[.int .u8 10]])=X at sX X1 ⊢
 have D3:=s24 (Rd.os X1) (by simp) u6 false
 rw [k9c] at D3
 refine D3.Q ?_
 rintro r y ⟨rfl,rfl⟩
 simp only [outU]
 simp only [↓vcPre,↓z0,↓reduceIte,vcPost,vcStd,Nat.reduceEqDiff,reduceCtorEq,Nat.reduceAdd,Nat.reduceLeDiff,Int.reduceLT,Int.reduceLE,↓u_setN]
 refine AllocQ.i0 fun p5 hp5 => ?_
 simp only [↓vcPre,↓z0,↓reduceIte,vcPost,vcStd,Nat.reduceEqDiff,reduceCtorEq,Nat.reduceAdd,Nat.reduceLeDiff,Int.reduceLT,Int.reduceLE,↓u_setN]
 refine AllocQ.i1 fun p6 h65 h56 hp6 => ?_
 simp only [h65,h56,zw,z5q,szn,↓vcPre,↓z0,↓reduceIte,vcPost,vcStd,Nat.reduceEqDiff,reduceCtorEq,Nat.reduceAdd,Nat.reduceLeDiff,Int.reduceLT,Int.reduceLE,↓u_setN]
 have sY:Store.sub y ((((y.set p5 (.box zU)).set p6 (.box zN)).set p5 (.box zeroUp.c)).set p6 (.box [.int .i64 3,.int .i64 3,.sl 1 (([1]:List Int).map cB)])):=z8 (z8 (zq hp5 hp6 h65) hp5) hp6
 have Y6:((((y.set p5 (.box zU)).set p6 (.box zN)).set p5 (.box zeroUp.c)).set p6 (.box [.int .i64 3,.int .i64 3,.sl 1 (([1]:List Int).map cB)])) p6=some (.box [.int .i64 3,.int .i64 3,.sl 1 (([1]:List Int).map cB)]):=Store.set_same _ _ _
 generalize ((((y.set p5 (.box zU)).set p6 (.box zN)).set p5 (.box zeroUp.c)).set p6 (.box [.int .i64 3,.int .i64 3,.sl 1 (([1]:List Int).map cB)]))=Y at sY Y6 ⊢
 have sUY:Store.sub U Y:=Store.sub_trans sV (Store.sub_trans sW (Store.sub_trans sX sY))
 have Y1:=sUY _ _ U1
 have Y2:=sUY _ _ U2
 have Y4:=sY _ _ (sX _ _ W4)
 have g1:List.take 1 (List.drop 1 (⟨[],false,zeroAt,[]⟩:Up).c)=[.bool false]:=rfl
 have g11:List.take 1 (List.drop 11 (⟨[],false,zeroAt,[]⟩:Up).c)=[.sl 2 []]:=rfl
 have l1:=z14 (τ:=Y) (L:=[1]) Rd.sl (Store.sub_refl _)
 have hby:(byL [1]).toArray = #[1]:=rfl
 rw [hby] at l1
 have eqq:pv (.eqs false) [.str ⟨#[1]⟩,.str ⟨#[1]⟩]=some (.bool true):=by simp [pv,pEqs]
 simp only [Y1,Y2,Y4,Y6,g1,g11,zw,l1,eqq,↓vcPre,↓z0,↓reduceIte,vcPost,vcStd,Nat.reduceEqDiff,reduceCtorEq,Nat.reduceAdd,Nat.reduceLeDiff,Int.reduceLT,Int.reduceLE,↓u_setN]
 exact ⟨fun _=>Store.sub_trans sT (Store.sub_trans sU sUY),fun h=>absurd rfl h⟩
end Go.Am
namespace Go.Am
open Go.Proofs Go.Sort
theorem z7j (u v:Up):(u=v)↔(u.w=v.w∧u.has=v.has∧u.a=v.a∧u.n=v.n):=by
 constructor
 ·rintro rfl;exact ⟨rfl,rfl,rfl,rfl⟩
 ·rintro ⟨a,b,c,d⟩;cases u;cases v;simp_all
instance:DecidableEq Up:=fun u v=>decidable_of_iff _ (z7j u v).symm
theorem c48 (u v:Up) (hu:u.a.ok) (hv:v.a.ok) (lu:u.w.length≤1000000∧u.n.length≤1000000) (lv:v.w.length≤1000000∧v.n.length≤1000000):Pur Tryz.prog 48 [.agg u.c,.agg v.c] (.bool (decide (u=v))):=by
 refine zo Tst.F48 (by simp [Tst.F48,Fn.mkX]) fun σ => ?_
 simp only [Tst.F48,Fn.mkX,Tst.b48]
 have f0:∀ x:Up,List.take 1 x.c=[.sl 2 (x.w.map pxC)]:=fun _=>rfl
 have f1:∀ x:Up,List.take 1 (List.drop 1 x.c)=[.bool x.has]:=fun _=>rfl
 have f2:∀ x:Up,List.take 9 (List.drop 2 x.c)=x.a.c:=fun _=>rfl
 have f11:∀ x:Up,List.take 1 (List.drop 11 x.c)=[.sl 2 (x.n.map pxC)]:=fun _=>rfl
 simp only [zw,↓vcPre,↓z0,↓reduceIte,vcPost,vcStd,Nat.reduceEqDiff,reduceCtorEq,Nat.reduceAdd,Nat.reduceLeDiff,Int.reduceLT,Int.reduceLE,↓u_setN]
 refine AllocQ.i0 fun p hp => ?_
 simp only [zw,↓vcPre,↓z0,↓reduceIte,vcPost,vcStd,Nat.reduceEqDiff,reduceCtorEq,Nat.reduceAdd,Nat.reduceLeDiff,Int.reduceLT,Int.reduceLE,↓u_setN]
 refine AllocQ.i1 fun q hqp hpq hq => ?_
 have hT:=zq (o := .box u.c) (p := .box v.c) hp hq hqp
 have Tq:((σ.set p (.box u.c)).set q (.box v.c)) q=some (.box v.c):=Store.set_same _ _ _
 have Tp:((σ.set p (.box u.c)).set q (.box v.c)) p=some (.box u.c):=by rw [Store.set_ne _ _ hpq];exact Store.set_same _ _ _
 generalize (σ.set p (.box u.c)).set q (.box v.c)=T at hT Tp Tq ⊢
 simp only [Tp,Tq,f0,zw,↓vcPre,↓z0,↓reduceIte,vcPost,vcStd,Nat.reduceEqDiff,reduceCtorEq,Nat.reduceAdd,Nat.reduceLeDiff,Int.reduceLT,Int.reduceLE,↓u_setN]
 refine (zch (σ:=T) (l:=u.w) (m:=v.w) Rd.sl Rd.sl lu.1 lv.1).Q ?_
 rintro r s ⟨rfl,rfl⟩
 simp only [Tp,Tq,f1,f2,f11,zw,z4c,↓vcPre,↓z0,↓reduceIte,vcPost,vcStd,Nat.reduceEqDiff,reduceCtorEq,Nat.reduceAdd,Nat.reduceLeDiff,Int.reduceLT,Int.reduceLE,↓u_setN]
 have no:¬ u=v→false=decide (u=v)∧σ.sub s:=fun h=>⟨by rw [decide_eq_false h],hT⟩
 refine ⟨fun g1=>⟨fun g2=>(c26 _ _ hu hv).Q ?_,fun g2=>no (by rintro rfl;exact g2 rfl)⟩,fun g1=>no (by rintro rfl;exact g1 rfl)⟩
 simp only [Tp,Tq,f1,f2,f11,zw,↓vcPre,↓z0,↓reduceIte,vcPost,vcStd,Nat.reduceEqDiff,reduceCtorEq,Nat.reduceAdd,Nat.reduceLeDiff,Int.reduceLT,Int.reduceLE,↓u_setN]
 refine ⟨fun g3 => ?_,fun g3=>no (by rintro rfl;exact g3 rfl)⟩
 refine (zch (σ:=s) (l:=u.n) (m:=v.n) Rd.sl Rd.sl lu.2 lv.2).Q ?_
 rintro r s ⟨rfl,rfl⟩
 simp only [↓vcPre,↓z0,↓reduceIte,vcPost,vcStd,Nat.reduceEqDiff,reduceCtorEq,Nat.reduceAdd,Nat.reduceLeDiff,Int.reduceLT,Int.reduceLE,↓u_setN]
 refine ⟨?_,hT⟩
 rw [decide_eq_decide,z7j]
 simp_all
theorem c90 (n:Int) (v:AV) (hv:v.isTup=false∧v.cells=[v]):Pur Tryz.prog 90 [.int .i64 n,v] (.tup [.agg zU,.agg [.int .i64 3,.int .i64 n,v]]):=by
 refine zo Tst.F90 (by simp [Tst.F90,Fn.mkX]) fun σ => ?_
 simp only [Tst.F90,Fn.mkX,Tst.b90,yd,yw]
 have szz:splice 0 zU zU=some zU:=rfl
 have szn:∀ x y z:AV,splice 0 [x,y,z] zN=some [x,y,z]:=fun _ _ _=>rfl
 have zl:zU.length=12:=rfl
 simp only [↓vcPre,↓z0,↓reduceIte,vcPost,vcStd,Nat.reduceEqDiff,reduceCtorEq,Nat.reduceAdd,Nat.reduceLeDiff,Int.reduceLT,Int.reduceLE,↓u_setN]
 refine AllocQ.i0 fun p hp => ?_
 simp only [↓vcPre,↓z0,↓reduceIte,vcPost,vcStd,Nat.reduceEqDiff,reduceCtorEq,Nat.reduceAdd,Nat.reduceLeDiff,Int.reduceLT,Int.reduceLE,↓u_setN]
 refine AllocQ.i1 fun q hqp hpq hq => ?_
 have s0:∀ a:AV,splice 0 [a] zN=some [a,.int .i64 0,.nils]:=fun _=>rfl
 have s1:∀ a b:AV,splice 1 [b] [a,.int .i64 0,.nils]=some [a,b,.nils]:=fun _ _=>rfl
 have s2:∀ a b c:AV,splice 2 [c] [a,b,.nils]=some [a,b,c]:=fun _ _ _=>rfl
 have z12:List.take 12 zU=zU:=rfl
 simp only [hqp,hpq,hv.1,hv.2,zl,szz,s0,s1,s2,szn,z12,↓vcPre,↓z0,↓reduceIte,vcPost,vcStd,Nat.reduceEqDiff,reduceCtorEq,Nat.reduceAdd,Nat.reduceLeDiff,Int.reduceLT,Int.reduceLE,↓u_setN]
 exact z8 (z8 (zq hp hq hqp) hp) hq
end Go.Am
namespace Go.Am.Ts4
open Go.Proofs Go.Am.B
def t47_119:BC:=z [f 119 1 9,⟨none,none,.loud (.st 1),[.t 119,.c (.bool true)]⟩] [4,5,9,12] (z [⟨some 120,none,.load (.ld 9 true),[.t 12]⟩,f 121 2 9,s 9 121 120] [4,5,9] (z [⟨some 122,none,.load (.ld 12 true),[.t 9]⟩,p 123 (.build [(.int .i64 0),(.int .i64 0),.nils] []) [],s 12 4 122,s 3 5 123] [4,5] .ret))
def t47_83:BC := .seq (z [⟨some 83,none,.alloc (.mksl 1 4),[.c (.int .i64 1),.c (.int .i64 2),.c (.int .i64 3),.c (.int .i64 5)]⟩,u 84 .len 83,j 85 0] [1,4,5,9,12,13,83,84,85] (.block 0 (.loop [1,4,5,9,12,13,83,84,85] (z [b 86 .lss 85 84] [1,4,5,9,12,13,83,84,85,86] (.seq (.cond (.t 86) .skip (.exit 0)) (.seq (.block 1 (z [x 87 1 83 85,l 88 1 87,m 16 88] [1,4,5,9,12,13,16,83,84,85] (z [m 89 16,c 90 .eql 89 5,m 91 90,⟨some 92,some (91,true),.pure (.mov),[.t 1]⟩,⟨some 93,some (91,true),.pure (.not),[.t 92]⟩,⟨some 94,none,.pick,[.t 91,.t 93,.c (.bool false)]⟩,m 17 94] [1,4,5,9,12,13,16,17,83,84,85] (.seq (z [j 18 0] [1,4,5,9,12,13,16,17,18,83,84,85] (.block 2 (.loop [1,4,5,9,12,13,16,17,18,83,84,85] (.seq (z [m 95 18,m 96 13,u 97 .len 96,b 98 .lss 95 97] [1,4,5,9,12,13,16,17,18,83,84,85,98] (.cond (.t 98) .skip (.exit 2))) (.seq (.block 3 (.ops [m 101 17,m 102 101,⟨some 103,some (102,false),.pure (.mov),[.t 13]⟩,⟨some 104,some (102,false),.pure (.mov),[.t 18]⟩,⟨some 105,some (102,false),.pure (.idx 1),[.t 103,.t 104]⟩,⟨some 106,some (102,false),.load (.ld 1 false),[.t 105]⟩,⟨some 107,some (102,false),.pure (.mov),[.t 16]⟩,⟨some 108,some (102,false),.pure (.bin .eql),[.t 106,.t 107]⟩,⟨some 109,none,.pick,[.t 102,.c (.bool true),.t 108]⟩,m 17 109] [1,4,5,9,12,13,16,17,18,83,84,85])) (.ops [m 99 18,c 100 .add 99 1,m 18 100] [1,4,5,9,12,13,16,17,18,83,84,85])))))) (z [m 110 17,u 111 .not 110] [1,4,5,9,12,13,16,83,84,85,111] (.cond (.t 111) (z [m 112 16,u 113 (.conv .u8) 112,⟨some 114,none,.alloc (.mksl 1 1),[.t 113]⟩,g 115 90 [.c (.int .i64 3),.t 114],e 116 0 115,e 117 1 115,s 12 4 116,s 3 5 117] [4,5] .ret) .skip)))))) (.ops [c 118 .add 85 1,m 85 118] [1,4,5,9,12,13,83,84,85]))))))) t47_119
def t47_59:BC:=z [m 59 10,f 60 0 9,s 1 60 59] [0,1,4,5,6,9,12,13] (z [m 62 0,m 63 6,u 64 .nilchk 63,f 65 1 64,l 66 1 65,p 67 (.slice 1 true false) [.t 62,.t 66],g 68 91 [.t 67],m 61 68,e 69 0 61,e 70 1 61,f 71 11 9,s 1 71 69,m 11 70] [1,4,5,9,11,12,13] (.seq (z [m 72 11,u 73 .not 72] [1,4,5,9,12,13,73] (.cond (.t 73) (z [g 74 90 [.c (.int .i64 10),.c .nils],e 75 0 74,e 76 1 74,s 12 4 75,s 3 5 76] [4,5] .ret) .skip)) (.seq (z [f 77 11 9,l 78 1 77,u 79 .len 78,c 80 .eql 79 0] [1,4,5,9,12,13,80] (.cond (.t 80) (z [⟨some 81,none,.load (.ld 12 true),[.t 9]⟩,p 82 (.build [(.int .i64 0),(.int .i64 0),.nils] []) [],s 12 4 81,s 3 5 82] [4,5] .ret) .skip)) t47_83)))
def t47_48:BC:=z [m 48 8,m 49 1,g 50 42 [.t 48,.t 49],m 47 50,e 51 0 47,e 52 1 47,e 53 2 47,⟨some 12,none,.alloc (.alloc [(.int .i64 0),.nils,(.int .u32 0),(.bool false),(.int .u32 0),(.bool false),(.int .u32 0),(.bool false),.nils]),[]⟩,⟨some 14,none,.alloc (.alloc [(.int .i64 0),(.int .i64 0),.nils]),[]⟩,s 9 12 51,m 13 52,s 3 14 53] [0,1,4,5,6,9,10,12,13,14] (.seq (z [f 54 0 14,l 55 1 54,c 56 .neq 55 0] [0,1,4,5,6,9,10,12,13,14,56] (.cond (.t 56) (.seq (z [p 57 (.build [.nils,(.bool false),(.int .i64 0),.nils,(.int .u32 0),(.bool false),(.int .u32 0),(.bool false),(.int .u32 0),(.bool false),.nils,.nils] []) []] [4,5,14,57] (.both (z [⟨some 58,none,.load (.ld 3 true),[.t 14]⟩] [4,5,57,58] (z [s 12 4 57] [4,5,58] (z [s 3 5 58] [4,5] (.ops [] [4,5])))) (.both (z [s 12 4 57] [4,5,14] (z [⟨some 58,none,.load (.ld 3 true),[.t 14]⟩] [4,5,58] (z [s 3 5 58] [4,5] (.ops [] [4,5])))) (.top)))) .ret) .skip)) t47_59)
def t47_9:BC:=z [⟨some 9,none,.alloc (.alloc [.nils,(.bool false),(.int .i64 0),.nils,(.int .u32 0),(.bool false),(.int .u32 0),(.bool false),(.int .u32 0),(.bool false),.nils,.nils]),[]⟩] [0,1,4,5,6,7,8,9] (z [m 38 7,g 39 91 [.t 38],m 37 39,e 40 0 37,e 41 1 37,m 10 40,m 11 41] [0,1,4,5,6,8,9,10,11] (.seq (z [m 42 11,u 43 .not 42] [0,1,4,5,6,8,9,10,43] (.cond (.t 43) (z [g 44 90 [.c (.int .i64 10),.c .nils],e 45 0 44,e 46 1 44,s 12 4 45,s 3 5 46] [4,5] .ret) .skip)) t47_48))
def b47:BC:=z [⟨some 4,none,.alloc (.alloc [.nils,(.bool false),(.int .i64 0),.nils,(.int .u32 0),(.bool false),(.int .u32 0),(.bool false),(.int .u32 0),(.bool false),.nils,.nils]),[]⟩,⟨some 5,none,.alloc (.alloc [(.int .i64 0),(.int .i64 0),.nils]),[]⟩] [0,1,4,5] (z [m 19 0,p 20 (.build [.nils,(.int .i64 0),(.bool false)] [(0,1)]) [.t 19],⟨some 21,none,.alloc (.box),[.t 20]⟩,m 6 21] [0,1,4,5,6] (z [m 22 6,m 23 6,g 24 83 [.t 23],g 25 84 [.t 22,.t 24],m 7 25] [0,1,4,5,6,7] (z [m 26 6,m 27 6,g 28 83 [.t 27],g 29 84 [.t 26,.t 28],m 8 29] [0,1,4,5,6,7,8] (.seq (z [m 30 6,u 31 .nilchk 30,f 32 2 31,l 33 1 32] [0,1,4,5,6,7,8,33] (.cond (.t 33) (z [g 34 90 [.c (.int .i64 1),.c .nils],e 35 0 34,e 36 1 34,s 12 4 35,s 3 5 36] [4,5] .ret) .skip)) t47_9))))
def F47:Fn Tryz.prog 47:=Fn.mkX false b47 [.c 4 12 true,.c 5 3 true] 124 Tryz.f47 _ Tryz.func47 (by decide) rfl Tryz.ntmps47 (by kernel_rfl) (by kernel_rfl)
end Go.Am.Ts4
namespace Go.Am
open Go.Proofs Go.Sort
theorem z6l (inner:Bool) (ty:List Int):lacksF ty inner=(([1,2,3,5]:List Int).find? (fun k => !(decide (k=5∧inner=false) || decide (k ∈ ty)))).getD 0:=by
 unfold lacksF mustF
 cases inner <;> simp [List.find?]
theorem uw {h:Bool} {x:Int} {ty:List Int} {j:Nat} (hj:j<ty.length):(h || decide (x ∈ ty.take (j+1)))=((h || decide (x ∈ ty.take j)) || decide (ty[j]=x)):=by
 rw [List.take_succ_eq_append_getElem hj,Bool.or_assoc,←Bool.decide_or]
 congr 2
 rw [List.mem_append,List.mem_singleton]
 exact propext ⟨fun h=>h.elim .inl fun e => .inr e.symm,fun h=>h.elim .inl fun e => .inr e.symm⟩
theorem uf {inner:Bool} {ty:List Int} {k:Nat} (hk:k<([1,2,3,5]:List Int).length) (hx:∀ x ∈ ([1,2,3,5]:List Int).take k,(x=5∧inner=false)∨x ∈ ty) (hn:¬ ((([1,2,3,5]:List Int)[k]=5∧inner=false)∨([1,2,3,5]:List Int)[k] ∈ ty)):lacksF ty inner=([1,2,3,5]:List Int)[k]:=by
 have hsp:([1,2,3,5]:List Int)=([1,2,3,5]:List Int).take k++(([1,2,3,5]:List Int)[k]::([1,2,3,5]:List Int).drop (k+1)):=by rw [←List.drop_eq_getElem_cons hk,List.take_append_drop]
 have h1:(([1,2,3,5]:List Int).take k).find? (fun k => !(decide (k=5∧inner=false) || decide (k ∈ ty)))=none:=by
  rw [List.find?_eq_none]
  intro x hx2
  have:=hx x hx2
  rw [←Bool.decide_or,decide_eq_true this]
  decide
 rw [z6l,show ([1,2,3,5]:List Int).find? (fun k => !(decide (k=5∧inner=false) || decide (k ∈ ty)))=some ([1,2,3,5]:List Int)[k] by
  conv=>lhs;rw [hsp]
  rw [List.find?_append,h1,List.find?_cons,←Bool.decide_or,decide_eq_false hn]
  rfl]
 rfl
set_option maxHeartbeats 2000000 in
theorem zck {ty:List Int} (hl:ty.length≤1000000) {inner:Bool} {t:Store} {p4 p5 q p12:Nat} {n rr:Env→Store→Prop} {xx:Nat→Env→Store→Prop}
 (good:lacksF ty inner=0→∀ t' d,Store.sub t t'→∀ k,bwp Tryz.prog Ts4.t47_119 [(1,.bool inner),(4,.ptr p4 0),(5,.ptr p5 0),(9,.ptr q 0),(12,.ptr p12 0),(13,.sl 1 (ty.map cI)),(83,.os d 1 0 4),(84,.int .i64 4),(85,.int .i64 k),(86,.bool false)] t' n rr xx)
 (T4:t p4=some (.box zU)) (T5:t p5=some (.box zN)) (h45:¬ p4=p5) (h54:¬ p5=p4)
 (badd:lacksF ty inner≠0→∀ d t',t' d=some (.arr 1 [[.int .u8 (lacksF ty inner)]])→t d=none→Store.sub t t'→rr [(4,.ptr p4 0),(5,.ptr p5 0)] ((t'.set p4 (.box zU)).set p5 (.box [.int .i64 3,.int .i64 3,.os d 1 0 1]))) :
 bwp Tryz.prog Ts4.t47_83 [(1,.bool inner),(4,.ptr p4 0),(5,.ptr p5 0),(9,.ptr q 0),(12,.ptr p12 0),(13,.sl 1 (ty.map cI)),(80,.bool false)] t n rr xx:=by
 simp only [Ts4.t47_83]
 have m4:alv (.mksl 1 4) [.int .i64 1,.int .i64 2,.int .i64 3,.int .i64 5]=some (.arr 1 [[.int .i64 1],[.int .i64 2],[.int .i64 3],[.int .i64 5]],fun id => .os id 1 0 4):=rfl
 simp only [m4,↓vcPre,↓z0,↓reduceIte,vcPost,vcStd,Nat.reduceEqDiff,reduceCtorEq,Nat.reduceAdd,Nat.reduceLeDiff,Int.reduceLT,Int.reduceLE,↓u_setN]
 refine AllocQ.i0 fun d hd => ?_
 simp only [↓vcPre,↓z0,↓reduceIte,vcPost,vcStd,Nat.reduceEqDiff,reduceCtorEq,Nat.reduceAdd,Nat.reduceLeDiff,Int.reduceLT,Int.reduceLE,↓u_setN]
 have hD:=Store.sub_set t d (.arr 1 [[.int .i64 1],[.int .i64 2],[.int .i64 3],[.int .i64 5]]) hd
 have D1:(t.set d (.arr 1 [[.int .i64 1],[.int .i64 2],[.int .i64 3],[.int .i64 5]])) d=some (.arr 1 (([1,2,3,5]:List Int).map cI)):=Store.set_same _ _ _
 have hr2:=Rd.os D1
 generalize t.set d (.arr 1 [[.int .i64 1],[.int .i64 2],[.int .i64 3],[.int .i64 5]])=D at hD D1 hr2 ⊢
 refine LoopQ.inv (S:=Nat) (fun k=>[(1,.bool inner),(4,.ptr p4 0),(5,.ptr p5 0),(9,.ptr q 0),(12,.ptr p12 0),(13,.sl 1 (ty.map cI)),(83,.os d 1 0 4),(84,.int .i64 4),(85,.int .i64 (k:Int))]) (fun _=>D) (fun k=>k≤4∧∀ x ∈ ([1,2,3,5]:List Int).take k,(x=5∧inner=false)∨x ∈ ty) (fun k=>5 - k) 0 rfl (Store.sub_refl _) ⟨by omega,by simp⟩ ?_
 rintro k ⟨hk,hx⟩
 simp only [↓vcPre,↓z0,↓reduceIte,vcPost,vcStd,Nat.reduceEqDiff,reduceCtorEq,Nat.reduceAdd,Nat.reduceLeDiff,Int.reduceLT,Int.reduceLE,↓u_setN]
 refine ⟨fun c1 => ?_,fun c1 => ?_⟩
 ·have ek:IntKind.i64.wrap ((k:Int)+1)=((k+1:Nat):Int):=by rw [zb (by unfold I64;omega)];omega
  have hk4:k=0∨k=1∨k=2∨k=3:=by omega
  have D2:D d=some (.arr 1 [[.int .i64 1],[.int .i64 2],[.int .i64 3],[.int .i64 5]]):=D1
  have zl:zU.length=12:=rfl
  have szz:splice 0 zU zU=some zU:=rfl
  have szn:∀ x y z:AV,splice 0 [x,y,z] zN=some [x,y,z]:=fun _ _ _=>rfl
  rcases hk4 with rfl | rfl | rfl | rfl
  ·simp only [D2,↓vcPre,↓z0,↓reduceIte,vcPost,vcStd,Nat.reduceEqDiff,reduceCtorEq,Nat.reduceAdd,Nat.reduceLeDiff,Int.reduceLT,Int.reduceLE,↓u_setN]
   refine ⟨by omega,by simp,by simp,?_⟩
   simp only [List.getElem_cons_zero,List.getElem_cons_succ]
   simp only [↓vcPre,↓z0,↓reduceIte,vcPost,vcStd,Nat.reduceEqDiff,reduceCtorEq,Nat.reduceAdd,Nat.reduceLeDiff,Int.reduceLT,Int.reduceLE,↓u_setN]
   refine ⟨fun e=>absurd e (by decide),fun _ => ?_⟩
   refine LoopQ.inv (S:=Nat×Bool) (fun j=>[(1,.bool inner),(4,.ptr p4 0),(5,.ptr p5 0),(9,.ptr q 0),(12,.ptr p12 0),(13,.sl 1 (ty.map cI)),(16,.int .i64 1),(17,.bool j.2),(18,.int .i64 (j.1:Int)),(83,.os d 1 0 4),(84,.int .i64 4),(85,.int .i64 0)]) (fun _=>D) (fun j=>j.1≤ty.length∧j.2=(false || decide (1 ∈ ty.take j.1))) (fun j=>ty.length+1 - j.1) (0,false) rfl (Store.sub_refl _) ⟨by omega,by simp⟩ ?_
   rintro ⟨j,had⟩ ⟨hj,hh⟩
   simp only at hj hh
   simp only [↓vcPre,↓z0,↓reduceIte,vcPost,vcStd,Nat.reduceEqDiff,reduceCtorEq,Nat.reduceAdd,Nat.reduceLeDiff,Int.reduceLT,Int.reduceLE,↓u_setN]
   refine ⟨fun c2 => ?_,fun c2 => ?_⟩
   ·have ej:IntKind.i64.wrap ((j:Int)+1)=((j+1:Nat):Int):=by rw [zb (by unfold I64;omega)];omega
    have hjl:j<ty.length:=by omega
    have hn:=uw (h:=false) (x:=1) hjl
    rw [←hh] at hn
    simp only [cI,↓vcPre,↓z0,↓reduceIte,vcPost,vcStd,Nat.reduceEqDiff,reduceCtorEq,Nat.reduceAdd,Nat.reduceLeDiff,Int.reduceLT,Int.reduceLE,↓u_setN]
    rw [ej]
    cases had
    ·simp only [↓vcPre,↓z0,↓reduceIte,vcPost,vcStd,Nat.reduceEqDiff,reduceCtorEq,Nat.reduceAdd,Nat.reduceLeDiff,Int.reduceLT,Int.reduceLE,↓u_setN]
     refine ⟨hjl,NextQ.to (j+1,decide (ty[j]=1)) rfl (Store.sub_refl _) (by simp;omega) ⟨by simp;omega,?_⟩⟩
     simp only
     rw [hn];rfl
    ·simp only [↓vcPre,↓z0,↓reduceIte,vcPost,vcStd,Nat.reduceEqDiff,reduceCtorEq,Nat.reduceAdd,Nat.reduceLeDiff,Int.reduceLT,Int.reduceLE,↓u_setN]
     refine NextQ.to (j+1,true) rfl (Store.sub_refl _) (by simp;omega) ⟨by simp;omega,?_⟩
     simp only
     rw [hn];rfl
   ·have hjl:j=ty.length:=by omega
    rw [hjl,List.take_length] at hh
    cases had
    ·have hlk:lacksF ty inner=1:=uf (k:=0) (by decide) hx (by
      show ¬ (((1:Int)=5∧inner=false)∨(1:Int) ∈ ty)
      intro h
      rcases h with ⟨h1,h2⟩ | h
      ·first | exact absurd h1 (by decide) | (rw [h2] at hh;simp at hh)
      ·simp [h] at hh)
     rw [hlk] at badd
     simp only [↓vcPre,↓z0,↓reduceIte,vcPost,vcStd,Nat.reduceEqDiff,reduceCtorEq,Nat.reduceAdd,Nat.reduceLeDiff,Int.reduceLT,Int.reduceLE,↓u_setN]
     refine AllocQ.i0 fun dd hdd => ?_
     have w8:IntKind.u8.wrap 1=1:=rfl
     simp only [w8,↓vcPre,↓z0,↓reduceIte,vcPost,vcStd,Nat.reduceEqDiff,reduceCtorEq,Nat.reduceAdd,Nat.reduceLeDiff,Int.reduceLT,Int.reduceLE,↓u_setN]
     have hsd:=Store.sub_set D dd (.arr 1 [[.int .u8 1]]) hdd
     have Dd:(D.set dd (.arr 1 [[.int .u8 1]])) dd=some (.arr 1 [[.int .u8 1]]):=Store.set_same _ _ _
     have hst:=Store.sub_trans hD hsd
     have htd:t dd=none:=zj hD hdd
     have E4:=hst _ _ T4
     have E5:=hst _ _ T5
     generalize D.set dd (.arr 1 [[.int .u8 1]])=E at hst Dd E4 E5 ⊢
     refine (c90 3 (.os dd 1 0 1) ⟨rfl,rfl⟩).Q ?_
     simp only [E4,E5,h54,h45,zl,szz,szn,↓vcPre,↓z0,↓reduceIte,vcPost,vcStd,Nat.reduceEqDiff,reduceCtorEq,Nat.reduceAdd,Nat.reduceLeDiff,Int.reduceLT,Int.reduceLE,↓u_setN]
     exact badd (by decide) dd E Dd htd hst
    ·simp only [↓vcPre,↓z0,↓reduceIte,vcPost,vcStd,Nat.reduceEqDiff,reduceCtorEq,Nat.reduceAdd,Nat.reduceLeDiff,Int.reduceLT,Int.reduceLE,↓u_setN]
     refine NextQ.to 1 rfl (Store.sub_refl _) (by omega) ⟨by omega,?_⟩
     intro x hx2
     have e:([1,2,3,5]:List Int).take 1=([1,2,3,5]:List Int).take 0++[1]:=rfl
     rw [e,List.mem_append,List.mem_singleton] at hx2
     rcases hx2 with h | rfl
     ·exact hx x h
     ·right;simpa using hh
  ·simp only [D2,↓vcPre,↓z0,↓reduceIte,vcPost,vcStd,Nat.reduceEqDiff,reduceCtorEq,Nat.reduceAdd,Nat.reduceLeDiff,Int.reduceLT,Int.reduceLE,↓u_setN]
   refine ⟨by omega,by simp,by simp,?_⟩
   simp only [List.getElem_cons_zero,List.getElem_cons_succ]
   simp only [↓vcPre,↓z0,↓reduceIte,vcPost,vcStd,Nat.reduceEqDiff,reduceCtorEq,Nat.reduceAdd,Nat.reduceLeDiff,Int.reduceLT,Int.reduceLE,↓u_setN]
   refine ⟨fun e=>absurd e (by decide),fun _ => ?_⟩
   refine LoopQ.inv (S:=Nat×Bool) (fun j=>[(1,.bool inner),(4,.ptr p4 0),(5,.ptr p5 0),(9,.ptr q 0),(12,.ptr p12 0),(13,.sl 1 (ty.map cI)),(16,.int .i64 2),(17,.bool j.2),(18,.int .i64 (j.1:Int)),(83,.os d 1 0 4),(84,.int .i64 4),(85,.int .i64 1)]) (fun _=>D) (fun j=>j.1≤ty.length∧j.2=(false || decide (2 ∈ ty.take j.1))) (fun j=>ty.length+1 - j.1) (0,false) rfl (Store.sub_refl _) ⟨by omega,by simp⟩ ?_
   rintro ⟨j,had⟩ ⟨hj,hh⟩
   simp only at hj hh
   simp only [↓vcPre,↓z0,↓reduceIte,vcPost,vcStd,Nat.reduceEqDiff,reduceCtorEq,Nat.reduceAdd,Nat.reduceLeDiff,Int.reduceLT,Int.reduceLE,↓u_setN]
   refine ⟨fun c2 => ?_,fun c2 => ?_⟩
   ·have ej:IntKind.i64.wrap ((j:Int)+1)=((j+1:Nat):Int):=by rw [zb (by unfold I64;omega)];omega
    have hjl:j<ty.length:=by omega
    have hn:=uw (h:=false) (x:=2) hjl
    rw [←hh] at hn
    simp only [cI,↓vcPre,↓z0,↓reduceIte,vcPost,vcStd,Nat.reduceEqDiff,reduceCtorEq,Nat.reduceAdd,Nat.reduceLeDiff,Int.reduceLT,Int.reduceLE,↓u_setN]
    rw [ej]
    cases had
    ·simp only [↓vcPre,↓z0,↓reduceIte,vcPost,vcStd,Nat.reduceEqDiff,reduceCtorEq,Nat.reduceAdd,Nat.reduceLeDiff,Int.reduceLT,Int.reduceLE,↓u_setN]
     refine ⟨hjl,NextQ.to (j+1,decide (ty[j]=2)) rfl (Store.sub_refl _) (by simp;omega) ⟨by simp;omega,?_⟩⟩
     simp only
     rw [hn];rfl
    ·simp only [↓vcPre,↓z0,↓reduceIte,vcPost,vcStd,Nat.reduceEqDiff,reduceCtorEq,Nat.reduceAdd,Nat.reduceLeDiff,Int.reduceLT,Int.reduceLE,↓u_setN]
     refine NextQ.to (j+1,true) rfl (Store.sub_refl _) (by simp;omega) ⟨by simp;omega,?_⟩
     simp only
     rw [hn];rfl
   ·have hjl:j=ty.length:=by omega
    rw [hjl,List.take_length] at hh
    cases had
    ·have hlk:lacksF ty inner=2:=uf (k:=1) (by decide) hx (by
      show ¬ (((2:Int)=5∧inner=false)∨(2:Int) ∈ ty)
      intro h
      rcases h with ⟨h1,h2⟩ | h
      ·first | exact absurd h1 (by decide) | (rw [h2] at hh;simp at hh)
      ·simp [h] at hh)
     rw [hlk] at badd
     simp only [↓vcPre,↓z0,↓reduceIte,vcPost,vcStd,Nat.reduceEqDiff,reduceCtorEq,Nat.reduceAdd,Nat.reduceLeDiff,Int.reduceLT,Int.reduceLE,↓u_setN]
     refine AllocQ.i0 fun dd hdd => ?_
     have w8:IntKind.u8.wrap 2=2:=rfl
     simp only [w8,↓vcPre,↓z0,↓reduceIte,vcPost,vcStd,Nat.reduceEqDiff,reduceCtorEq,Nat.reduceAdd,Nat.reduceLeDiff,Int.reduceLT,Int.reduceLE,↓u_setN]
     have hsd:=Store.sub_set D dd (.arr 1 [[.int .u8 2]]) hdd
     have Dd:(D.set dd (.arr 1 [[.int .u8 2]])) dd=some (.arr 1 [[.int .u8 2]]):=Store.set_same _ _ _
     have hst:=Store.sub_trans hD hsd
     have htd:t dd=none:=zj hD hdd
     have E4:=hst _ _ T4
     have E5:=hst _ _ T5
     generalize D.set dd (.arr 1 [[.int .u8 2]])=E at hst Dd E4 E5 ⊢
     refine (c90 3 (.os dd 1 0 1) ⟨rfl,rfl⟩).Q ?_
     simp only [E4,E5,h54,h45,zl,szz,szn,↓vcPre,↓z0,↓reduceIte,vcPost,vcStd,Nat.reduceEqDiff,reduceCtorEq,Nat.reduceAdd,Nat.reduceLeDiff,Int.reduceLT,Int.reduceLE,↓u_setN]
     exact badd (by decide) dd E Dd htd hst
    ·simp only [↓vcPre,↓z0,↓reduceIte,vcPost,vcStd,Nat.reduceEqDiff,reduceCtorEq,Nat.reduceAdd,Nat.reduceLeDiff,Int.reduceLT,Int.reduceLE,↓u_setN]
     refine NextQ.to 2 rfl (Store.sub_refl _) (by omega) ⟨by omega,?_⟩
     intro x hx2
     have e:([1,2,3,5]:List Int).take 2=([1,2,3,5]:List Int).take 1++[2]:=rfl
     rw [e,List.mem_append,List.mem_singleton] at hx2
     rcases hx2 with h | rfl
     ·exact hx x h
     ·right;simpa using hh
  ·simp only [D2,↓vcPre,↓z0,↓reduceIte,vcPost,vcStd,Nat.reduceEqDiff,reduceCtorEq,Nat.reduceAdd,Nat.reduceLeDiff,Int.reduceLT,Int.reduceLE,↓u_setN]
   refine ⟨by omega,by simp,by simp,?_⟩
   simp only [List.getElem_cons_zero,List.getElem_cons_succ]
   simp only [↓vcPre,↓z0,↓reduceIte,vcPost,vcStd,Nat.reduceEqDiff,reduceCtorEq,Nat.reduceAdd,Nat.reduceLeDiff,Int.reduceLT,Int.reduceLE,↓u_setN]
   refine ⟨fun e=>absurd e (by decide),fun _ => ?_⟩
   refine LoopQ.inv (S:=Nat×Bool) (fun j=>[(1,.bool inner),(4,.ptr p4 0),(5,.ptr p5 0),(9,.ptr q 0),(12,.ptr p12 0),(13,.sl 1 (ty.map cI)),(16,.int .i64 3),(17,.bool j.2),(18,.int .i64 (j.1:Int)),(83,.os d 1 0 4),(84,.int .i64 4),(85,.int .i64 2)]) (fun _=>D) (fun j=>j.1≤ty.length∧j.2=(false || decide (3 ∈ ty.take j.1))) (fun j=>ty.length+1 - j.1) (0,false) rfl (Store.sub_refl _) ⟨by omega,by simp⟩ ?_
   rintro ⟨j,had⟩ ⟨hj,hh⟩
   simp only at hj hh
   simp only [↓vcPre,↓z0,↓reduceIte,vcPost,vcStd,Nat.reduceEqDiff,reduceCtorEq,Nat.reduceAdd,Nat.reduceLeDiff,Int.reduceLT,Int.reduceLE,↓u_setN]
   refine ⟨fun c2 => ?_,fun c2 => ?_⟩
   ·have ej:IntKind.i64.wrap ((j:Int)+1)=((j+1:Nat):Int):=by rw [zb (by unfold I64;omega)];omega
    have hjl:j<ty.length:=by omega
    have hn:=uw (h:=false) (x:=3) hjl
    rw [←hh] at hn
    simp only [cI,↓vcPre,↓z0,↓reduceIte,vcPost,vcStd,Nat.reduceEqDiff,reduceCtorEq,Nat.reduceAdd,Nat.reduceLeDiff,Int.reduceLT,Int.reduceLE,↓u_setN]
    rw [ej]
    cases had
    ·simp only [↓vcPre,↓z0,↓reduceIte,vcPost,vcStd,Nat.reduceEqDiff,reduceCtorEq,Nat.reduceAdd,Nat.reduceLeDiff,Int.reduceLT,Int.reduceLE,↓u_setN]
     refine ⟨hjl,NextQ.to (j+1,decide (ty[j]=3)) rfl (Store.sub_refl _) (by simp;omega) ⟨by simp;omega,?_⟩⟩
     simp only
     rw [hn];rfl
    ·simp only [↓vcPre,↓z0,↓reduceIte,vcPost,vcStd,Nat.reduceEqDiff,reduceCtorEq,Nat.reduceAdd,Nat.reduceLeDiff,Int.reduceLT,Int.reduceLE,↓u_setN]
     refine NextQ.to (j+1,true) rfl (Store.sub_refl _) (by simp;omega) ⟨by simp;omega,?_⟩
     simp only
     rw [hn];rfl
   ·have hjl:j=ty.length:=by omega
    rw [hjl,List.take_length] at hh
    cases had
    ·have hlk:lacksF ty inner=3:=uf (k:=2) (by decide) hx (by
      show ¬ (((3:Int)=5∧inner=false)∨(3:Int) ∈ ty)
      intro h
      rcases h with ⟨h1,h2⟩ | h
      ·first | exact absurd h1 (by decide) | (rw [h2] at hh;simp at hh)
      ·simp [h] at hh)
     rw [hlk] at badd
     simp only [↓vcPre,↓z0,↓reduceIte,vcPost,vcStd,Nat.reduceEqDiff,reduceCtorEq,Nat.reduceAdd,Nat.reduceLeDiff,Int.reduceLT,Int.reduceLE,↓u_setN]
     refine AllocQ.i0 fun dd hdd => ?_
     have w8:IntKind.u8.wrap 3=3:=rfl
     simp only [w8,↓vcPre,↓z0,↓reduceIte,vcPost,vcStd,Nat.reduceEqDiff,reduceCtorEq,Nat.reduceAdd,Nat.reduceLeDiff,Int.reduceLT,Int.reduceLE,↓u_setN]
     have hsd:=Store.sub_set D dd (.arr 1 [[.int .u8 3]]) hdd
     have Dd:(D.set dd (.arr 1 [[.int .u8 3]])) dd=some (.arr 1 [[.int .u8 3]]):=Store.set_same _ _ _
     have hst:=Store.sub_trans hD hsd
     have htd:t dd=none:=zj hD hdd
     have E4:=hst _ _ T4
     have E5:=hst _ _ T5
     generalize D.set dd (.arr 1 [[.int .u8 3]])=E at hst Dd E4 E5 ⊢
     refine (c90 3 (.os dd 1 0 1) ⟨rfl,rfl⟩).Q ?_
     simp only [E4,E5,h54,h45,zl,szz,szn,↓vcPre,↓z0,↓reduceIte,vcPost,vcStd,Nat.reduceEqDiff,reduceCtorEq,Nat.reduceAdd,Nat.reduceLeDiff,Int.reduceLT,Int.reduceLE,↓u_setN]
     exact badd (by decide) dd E Dd htd hst
    ·simp only [↓vcPre,↓z0,↓reduceIte,vcPost,vcStd,Nat.reduceEqDiff,reduceCtorEq,Nat.reduceAdd,Nat.reduceLeDiff,Int.reduceLT,Int.reduceLE,↓u_setN]
     refine NextQ.to 3 rfl (Store.sub_refl _) (by omega) ⟨by omega,?_⟩
     intro x hx2
     have e:([1,2,3,5]:List Int).take 3=([1,2,3,5]:List Int).take 2++[3]:=rfl
     rw [e,List.mem_append,List.mem_singleton] at hx2
     rcases hx2 with h | rfl
     ·exact hx x h
     ·right;simpa using hh
  ·simp only [D2,↓vcPre,↓z0,↓reduceIte,vcPost,vcStd,Nat.reduceEqDiff,reduceCtorEq,Nat.reduceAdd,Nat.reduceLeDiff,Int.reduceLT,Int.reduceLE,↓u_setN]
   refine ⟨by omega,by simp,by simp,?_⟩
   simp only [List.getElem_cons_zero,List.getElem_cons_succ]
   simp only [↓vcPre,↓z0,↓reduceIte,vcPost,vcStd,Nat.reduceEqDiff,reduceCtorEq,Nat.reduceAdd,Nat.reduceLeDiff,Int.reduceLT,Int.reduceLE,↓u_setN]
   refine LoopQ.inv (S:=Nat×Bool) (fun j=>[(1,.bool inner),(4,.ptr p4 0),(5,.ptr p5 0),(9,.ptr q 0),(12,.ptr p12 0),(13,.sl 1 (ty.map cI)),(16,.int .i64 5),(17,.bool j.2),(18,.int .i64 (j.1:Int)),(83,.os d 1 0 4),(84,.int .i64 4),(85,.int .i64 ((3:Nat):Int))]) (fun _=>D) (fun j=>j.1≤ty.length∧j.2=((!inner) || decide (5 ∈ ty.take j.1))) (fun j=>ty.length+1 - j.1) (0,(!inner)) rfl (Store.sub_refl _) ⟨by omega,by simp⟩ ?_
   rintro ⟨j,had⟩ ⟨hj,hh⟩
   simp only at hj hh
   simp only [↓vcPre,↓z0,↓reduceIte,vcPost,vcStd,Nat.reduceEqDiff,reduceCtorEq,Nat.reduceAdd,Nat.reduceLeDiff,Int.reduceLT,Int.reduceLE,↓u_setN]
   refine ⟨fun c2 => ?_,fun c2 => ?_⟩
   ·have ej:IntKind.i64.wrap ((j:Int)+1)=((j+1:Nat):Int):=by rw [zb (by unfold I64;omega)];omega
    have hjl:j<ty.length:=by omega
    have hn:=uw (h:=(!inner)) (x:=5) hjl
    rw [←hh] at hn
    simp only [cI,↓vcPre,↓z0,↓reduceIte,vcPost,vcStd,Nat.reduceEqDiff,reduceCtorEq,Nat.reduceAdd,Nat.reduceLeDiff,Int.reduceLT,Int.reduceLE,↓u_setN]
    rw [ej]
    cases had
    ·simp only [↓vcPre,↓z0,↓reduceIte,vcPost,vcStd,Nat.reduceEqDiff,reduceCtorEq,Nat.reduceAdd,Nat.reduceLeDiff,Int.reduceLT,Int.reduceLE,↓u_setN]
     refine ⟨hjl,NextQ.to (j+1,decide (ty[j]=5)) rfl (Store.sub_refl _) (by simp;omega) ⟨by simp;omega,?_⟩⟩
     simp only
     rw [hn];rfl
    ·simp only [↓vcPre,↓z0,↓reduceIte,vcPost,vcStd,Nat.reduceEqDiff,reduceCtorEq,Nat.reduceAdd,Nat.reduceLeDiff,Int.reduceLT,Int.reduceLE,↓u_setN]
     refine NextQ.to (j+1,true) rfl (Store.sub_refl _) (by simp;omega) ⟨by simp;omega,?_⟩
     simp only
     rw [hn];rfl
   ·have hjl:j=ty.length:=by omega
    rw [hjl,List.take_length] at hh
    cases had
    ·have hlk:lacksF ty inner=5:=uf (k:=3) (by decide) hx (by
      show ¬ (((5:Int)=5∧inner=false)∨(5:Int) ∈ ty)
      intro h
      rcases h with ⟨h1,h2⟩ | h
      ·first | exact absurd h1 (by decide) | (rw [h2] at hh;simp at hh)
      ·simp [h] at hh)
     rw [hlk] at badd
     simp only [↓vcPre,↓z0,↓reduceIte,vcPost,vcStd,Nat.reduceEqDiff,reduceCtorEq,Nat.reduceAdd,Nat.reduceLeDiff,Int.reduceLT,Int.reduceLE,↓u_setN]
     refine AllocQ.i0 fun dd hdd => ?_
     have w8:IntKind.u8.wrap 5=5:=rfl
     simp only [w8,↓vcPre,↓z0,↓reduceIte,vcPost,vcStd,Nat.reduceEqDiff,reduceCtorEq,Nat.reduceAdd,Nat.reduceLeDiff,Int.reduceLT,Int.reduceLE,↓u_setN]
     have hsd:=Store.sub_set D dd (.arr 1 [[.int .u8 5]]) hdd
     have Dd:(D.set dd (.arr 1 [[.int .u8 5]])) dd=some (.arr 1 [[.int .u8 5]]):=Store.set_same _ _ _
     have hst:=Store.sub_trans hD hsd
     have htd:t dd=none:=zj hD hdd
     have E4:=hst _ _ T4
     have E5:=hst _ _ T5
     generalize D.set dd (.arr 1 [[.int .u8 5]])=E at hst Dd E4 E5 ⊢
     refine (c90 3 (.os dd 1 0 1) ⟨rfl,rfl⟩).Q ?_
     simp only [E4,E5,h54,h45,zl,szz,szn,↓vcPre,↓z0,↓reduceIte,vcPost,vcStd,Nat.reduceEqDiff,reduceCtorEq,Nat.reduceAdd,Nat.reduceLeDiff,Int.reduceLT,Int.reduceLE,↓u_setN]
     exact badd (by decide) dd E Dd htd hst
    ·simp only [↓vcPre,↓z0,↓reduceIte,vcPost,vcStd,Nat.reduceEqDiff,reduceCtorEq,Nat.reduceAdd,Nat.reduceLeDiff,Int.reduceLT,Int.reduceLE,↓u_setN]
     refine NextQ.to 4 rfl (Store.sub_refl _) (by omega) ⟨by omega,?_⟩
     intro x hx2
     have e:([1,2,3,5]:List Int).take 4=([1,2,3,5]:List Int).take 3++[5]:=rfl
     rw [e,List.mem_append,List.mem_singleton] at hx2
     rcases hx2 with h | rfl
     ·exact hx x h
     ·cases inner <;> simp at hh ⊢ <;> simp [hh]
 ·have hk4:k=4:=by omega
  subst hk4
  refine good ?_ D d hD _
  rw [z6l,List.find?_eq_none.2]
  ·rfl
  ·intro x hx2
   have:=hx x hx2
   rw [←Bool.decide_or,decide_eq_true this]
   decide
end Go.Am
namespace Go.Am
open Go.Proofs Go.Sort
theorem z3g {R:List Int} (hu:U8s R) (b:Bool):(numM 2 R b).1≤65535:=by
 cases b with
 | true=>rw [z04];show (0:Int)≤65535;omega
 | false =>
   match R,hu with
   | [],_=>rw [wz (by simp)];show (0:Int)≤65535;omega
   | [x],_=>rw [wz (by simp)];show (0:Int)≤65535;omega
   | h::l::r,hu =>
     have hh:=hu h (by simp)
     have hl:=hu l (by simp)
     rw [z18]
     show h*256+l≤65535
     omega
theorem Rd.from {esz:Nat} {τ:Store} {L:List (List AV)} {v:AV} (h:Rd esz τ L v) {lo:Nat} (h1:lo≤L.length):∃ v',pSlice esz v (lo:Int) none=some v'∧Rd esz τ (L.drop lo) v':=by
 obtain ⟨v',e,hr⟩:=h.slice h1 (Nat.le_refl _)
 rw [List.take_length] at hr
 refine ⟨v',?_,hr⟩
 rw [←e]
 rcases h.cases with ⟨rfl,h0⟩ | rfl | ⟨g,o,n,rfl⟩
 ·subst h0;simp [pSlice]
 ·simp [pSlice]
 ·have hl:=h.2
  simp only [pv,pLen,Option.some.injEq,AV.int.injEq,true_and] at hl
  simp [pSlice,hl]
set_option maxHeartbeats 4000000 in
theorem s47 {σ:Store} {B:List Int} {v:AV} (hr:Rd 1 σ (B.map cB) v) (hB:B.length≤1000000) (hu:U8s B) (inner:Bool):ACalls Tryz.prog 47 [v,.bool inner] σ (fun r s=>s=σ∧r=outU (decU inner B)):=by
 refine ze Ts4.F47 (by simp [Ts4.F47,Fn.mkX]) ?_
 simp only [Ts4.F47,Fn.mkX,Ts4.b47,yd,yw]
 have htv:=hr.isTup
 have sp3:splice 0 [v] [.nils,.int .i64 0,.bool false]=some [v,.int .i64 0,.bool false]:=rfl
 simp only [↓vcPre,↓z0,↓reduceIte,vcPost,vcStd,Nat.reduceEqDiff,reduceCtorEq,Nat.reduceAdd,Nat.reduceLeDiff,Int.reduceLT,Int.reduceLE,↓u_setN]
 refine AllocQ.i0 fun p4 h4 => ?_
 simp only [↓vcPre,↓z0,↓reduceIte,vcPost,vcStd,Nat.reduceEqDiff,reduceCtorEq,Nat.reduceAdd,Nat.reduceLeDiff,Int.reduceLT,Int.reduceLE,↓u_setN]
 refine AllocQ.i1 fun p5 h54 h45 h5 => ?_
 simp only [htv.1,htv.2,sp3,↓vcPre,↓z0,↓reduceIte,vcPost,vcStd,Nat.reduceEqDiff,reduceCtorEq,Nat.reduceAdd,Nat.reduceLeDiff,Int.reduceLT,Int.reduceLE,↓u_setN]
 have hU:=zq (o := .box zU) (p := .box zN) h4 h5 h54
 have U5:((σ.set p4 (.box zU)).set p5 (.box zN)) p5=some (.box zN):=Store.set_same _ _ _
 have U4:((σ.set p4 (.box zU)).set p5 (.box zN)) p4=some (.box zU):=by rw [Store.set_ne _ _ h45];exact Store.set_same _ _ _
 generalize (σ.set p4 (.box zU)).set p5 (.box zN)=U at hU U4 U5 ⊢
 refine AllocQ.i0 fun id hid => ?_
 simp only [↓vcPre,↓z0,↓reduceIte,vcPost,vcStd,Nat.reduceEqDiff,reduceCtorEq,Nat.reduceAdd,Nat.reduceLeDiff,Int.reduceLT,Int.reduceLE,↓u_setN]
 have k0:=RZ.new hid (Store.sub_refl U) (hr.mono hU) (by omega) hu
 refine (z66 k0).Q ?_
 rintro r s1 ⟨rfl,k1⟩
 have b1:=yv (k:=2) (b:=false) hu
 simp only [↓vcPre,↓z0,↓reduceIte,vcPost,vcStd,Nat.reduceEqDiff,reduceCtorEq,Nat.reduceAdd,Nat.reduceLeDiff,Int.reduceLT,Int.reduceLE,↓u_setN]
 refine (z65 k1 _ (by have:=z3g hu false;omega)).Q ?_
 rintro r s2 ⟨rfl,k2⟩
 have b2:=xe (n:=(numM 2 B false).1) (bad:=(numM 2 B false).2.2) b1.1
 have b2l:=rawM_len (n:=(numM 2 B false).1) (R:=(numM 2 B false).2.1) (bad:=(numM 2 B false).2.2)
 simp only [↓vcPre,↓z0,↓reduceIte,vcPost,vcStd,Nat.reduceEqDiff,reduceCtorEq,Nat.reduceAdd,Nat.reduceLeDiff,Int.reduceLT,Int.reduceLE,↓u_setN]
 refine (z66 k2).Q ?_
 rintro r s3 ⟨rfl,k3⟩
 simp only [↓vcPre,↓z0,↓reduceIte,vcPost,vcStd,Nat.reduceEqDiff,reduceCtorEq,Nat.reduceAdd,Nat.reduceLeDiff,Int.reduceLT,Int.reduceLE,↓u_setN]
 refine (z65 k3 _ (by have:=z3g b2.2 (rawM (numM 2 B false).1 (numM 2 B false).2.1 (numM 2 B false).2.2).2.2;omega)).Q ?_
 rintro r s4 ⟨rfl,k4⟩
 obtain ⟨g,hg⟩:∃ x,x=(rawM (numM 2 B false).1 (numM 2 B false).2.1 (numM 2 B false).2.2):=⟨_,rfl⟩
 rw [←hg] at k4 b2 b2l ⊢
 have b3:=yv (k:=2) (b:=g.2.2) b2.2
 have b4:=xe (n:=(numM 2 g.2.1 g.2.2).1) (bad:=(numM 2 g.2.1 g.2.2).2.2) b3.1
 have b4l:=rawM_len (n:=(numM 2 g.2.1 g.2.2).1) (R:=(numM 2 g.2.1 g.2.2).2.1) (bad:=(numM 2 g.2.1 g.2.2).2.2)
 obtain ⟨a,ha⟩:∃ x,x=rawM (numM 2 g.2.1 g.2.2).1 (numM 2 g.2.1 g.2.2).2.1 (numM 2 g.2.1 g.2.2).2.2:=⟨_,rfl⟩
 rw [←ha] at k4 b4 b4l ⊢
 have hch:chainU B=(g.1,a.1,a.2.1,a.2.2):=by simp only [chainU,←hg,←ha]
 obtain ⟨at_,K1,K2,_,K4,_,K6,K7,_⟩:=k4
 have hs4:Store.sub σ s4:=Store.sub_trans hU K2
 have S4:=K2 _ _ U4
 have S5:=K2 _ _ U5
 have hσid:σ id=none:=zj hU hid
 simp only [K4,↓vcPre,↓z0,↓reduceIte,vcPost,vcStd,Nat.reduceEqDiff,reduceCtorEq,Nat.reduceAdd,Nat.reduceLeDiff,Int.reduceLT,Int.reduceLE,↓u_setN]
 have zl:zU.length=12:=rfl
 have zt:List.take 12 zU=zU:=rfl
 have szz:splice 0 zU zU=some zU:=rfl
 have szn:∀ x y z:AV,splice 0 [x,y,z] zN=some [x,y,z]:=fun _ _ _=>rfl
 have fin:∀ (T:Store) (cs ns:List AV),cs.length=12→ns.length=3→T p4=some (.box cs)→T p5=some (.box ns)→WeakL [.agg cs,.agg ns] T (fun l t=>t=σ ∧ .tup l=outU (decU inner B)) →
  @EndQ [(4,.ptr p4 0),(5,.ptr p5 0)] T ⟨Ts4.F47.slots,fun r s=>s=σ∧r=outU (decU inner B)⟩:=by
  intro T cs ns l1 l2 f4 f5 hW
  unfold EndQ
  refine ⟨.tup [.agg cs,.agg ns],?_,Weak.tup hW⟩
  show Env.res [(4,AV.ptr p4 0),(5,AV.ptr p5 0)] T [RS.c 4 12 true,RS.c 5 3 true]=_
  have e1:List.take 12 cs=cs:=List.take_of_length_le (by omega)
  have e2:List.take 3 ns=ns:=List.take_of_length_le (by omega)
  simp only [f4,f5,l1,l2,e1,e2,↓vcPre,↓z0,↓reduceIte,vcPost,vcStd,Nat.reduceEqDiff,reduceCtorEq,Nat.reduceAdd,Nat.reduceLeDiff,Int.reduceLT,Int.reduceLE,↓u_setN]
 have bad:∀ (T:Store) (n:Nt) (v:AV),Store.sub σ T→Imp v (.sl 1 (n.2.map cB))→decU inner B = .error n →
  @EndQ [(4,.ptr p4 0),(5,.ptr p5 0)] ((T.set p4 (.box zU)).set p5 (.box [.int .i64 3,.int .i64 n.1,v])) ⟨Ts4.F47.slots,fun r s=>s=σ∧r=outU (decU inner B)⟩:=by
  intro T n v hT hv hd
  refine fin _ zU [.int .i64 3,.int .i64 n.1,v] rfl rfl (by rw [Store.set_ne _ _ h45];exact Store.set_same _ _ _) (Store.set_same _ _ _) ?_
  refine WeakL.pos 0 rfl (Imp.agg z1l (WeakL.pos 1 rfl (Imp.agg (ds:=[.int .i64 3,.int .i64 n.1,.sl 1 (n.2.map cB)]) (.cons (.refl rfl) (.cons (.refl rfl) (.cons hv .nil))) (WeakL.forget (z8 (z8 hT h4) h5) (WeakL.pure ⟨rfl,?_⟩)))))
  simp only [List.set,hd,outU]
 rcases z0v hu with ⟨hc,hb⟩ | ⟨G,A,R,hc,hb⟩
 ·rw [hch] at hb
  simp only at hb
  have hd:decU inner B = .error (1,[]):=by unfold decU;rw [hc]
  rw [hb]
  simp only [↓vcPre,↓z0,↓reduceIte,vcPost,vcStd,Nat.reduceEqDiff,reduceCtorEq,Nat.reduceAdd,Nat.reduceLeDiff,Int.reduceLT,Int.reduceLE,↓u_setN]
  refine (c90 1 .nils ⟨rfl,rfl⟩).Q ?_
  simp only [S4,S5,h54,h45,zl,szz,szn,↓vcPre,↓z0,↓reduceIte,vcPost,vcStd,Nat.reduceEqDiff,reduceCtorEq,Nat.reduceAdd,Nat.reduceLeDiff,Int.reduceLT,Int.reduceLE,↓u_setN]
  exact bad s4 (1,[]) .nils hs4 .nils hd
 ·rw [hch] at hb
  obtain ⟨rfl,rfl,rfl,hbb⟩:G=g.1∧A=a.1∧R=a.2.1∧a.2.2=false:=by
   simp only [Prod.mk.injEq] at hb
   exact ⟨hb.1.symm,hb.2.1.symm,hb.2.2.1.symm,hb.2.2.2⟩
  rw [hbb]
  have lG:g.1.length≤1000000:=by omega
  have lA:a.1.length≤1000000:=by omega
  have lR:a.2.1.length≤1000000:=by omega
  have uG:=b2.1
  have uA:=b4.1
  have uR:=b4.2
  rw [hbb] at K4
  clear hch hb b1 b2 b2l b3 b4 b4l k0 k1 k2 k3
  simp only [hbb,↓vcPre,vcPost]
  generalize g.1=G at lG uG hc ⊢
  generalize a.1=A at lA uA hc ⊢
  generalize a.2.1=R at lR uR hc K7 ⊢
  have hd:decU inner B=match dN G with
   | none => .error (10,[])
   | some w=>match decA inner A with
     | .error n => .error n
     | .ok (at_,ty)=>match dN R with
       | none => .error (10,[])
       | some n=>if n=[] then .ok ⟨w,false,zeroAt,[]⟩ else if lacksF ty inner=0 then .ok ⟨w,true,at_,n⟩ else .error (3,[lacksF ty inner]):=by
   unfold decU;rw [hc];try rfl
  clear hc
  have hid4:¬ p4=id:=fun e=>by rw [e,K1] at U4;cases U4
  have hid5:¬ p5=id:=fun e=>by rw [e,K1] at U5;cases U5
  simp only [Ts4.t47_9,yd]
  simp only [↓vcPre,↓z0,↓reduceIte,vcPost,vcStd,Nat.reduceEqDiff,reduceCtorEq,Nat.reduceAdd,Nat.reduceLeDiff,Int.reduceLT,Int.reduceLE,↓u_setN]
  refine AllocQ.i0 fun q hq => ?_
  simp only [↓vcPre,↓z0,↓reduceIte,vcPost,vcStd,Nat.reduceEqDiff,reduceCtorEq,Nat.reduceAdd,Nat.reduceLeDiff,Int.reduceLT,Int.reduceLE,↓u_setN]
  have hσq:σ q=none:=zj hs4 hq
  have hq4:¬ p4=q:=fun e=>by rw [e,hq] at S4;cases S4
  have hq5:¬ p5=q:=fun e=>by rw [e,hq] at S5;cases S5
  have hqi:¬ id=q:=fun e=>by rw [e,hq] at K4;cases K4
  have hsq:=Store.sub_set s4 q (.box zU) hq
  have T4:=hsq _ _ S4
  have T5:=hsq _ _ S5
  have Ti:=hsq _ _ K4
  have Tq:(s4.set q (.box zU)) q=some (.box zU):=Store.set_same _ _ _
  have hT:=Store.sub_trans hs4 hsq
  have hUT:=Store.sub_trans K2 hsq
  generalize s4.set q (.box zU)=T at T4 T5 Ti Tq hT hUT ⊢
  refine (s91 (σ:=T) (B:=G) Rd.sl lG uG).Q ?_
  rintro r T' ⟨rfl,rfl⟩
  cases hG:dN G with
  | none =>
    rw [hG] at hd
    simp only at hd
    simp only [outN,List.map_nil]
    simp only [↓vcPre,↓z0,↓reduceIte,vcPost,vcStd,Nat.reduceEqDiff,reduceCtorEq,Nat.reduceAdd,Nat.reduceLeDiff,Int.reduceLT,Int.reduceLE,↓u_setN]
    refine (c90 10 .nils ⟨rfl,rfl⟩).Q ?_
    simp only [T4,T5,h54,h45,zl,szz,szn,↓vcPre,↓z0,↓reduceIte,vcPost,vcStd,Nat.reduceEqDiff,reduceCtorEq,Nat.reduceAdd,Nat.reduceLeDiff,Int.reduceLT,Int.reduceLE,↓u_setN]
    exact bad T' (10,[]) .nils hT .nils hd
  | some w =>
    rw [hG] at hd
    simp only at hd
    simp only [outN]
    simp only [↓vcPre,↓z0,↓reduceIte,vcPost,vcStd,Nat.reduceEqDiff,reduceCtorEq,Nat.reduceAdd,Nat.reduceLeDiff,Int.reduceLT,Int.reduceLE,↓u_setN]
    have e9:∀ x:At,x.c.length=9:=fun _=>rfl
    have t9:∀ x:At,List.take 9 x.c=x.c:=fun _=>rfl
    have spZ:∀ x:At,splice 0 x.c zC=some x.c:=fun _=>rfl
    simp only [Ts4.t47_48,wi,yw,yd]
    simp only [↓vcPre,↓z0,↓reduceIte,vcPost,vcStd,Nat.reduceEqDiff,reduceCtorEq,Nat.reduceAdd,Nat.reduceLeDiff,Int.reduceLT,Int.reduceLE,↓u_setN]
    refine (s42 (σ:=T') (B:=A) Rd.sl lA uA inner).Q ?_
    rintro r X ⟨rfl,rfl⟩
    have hiX:=Ti
    cases hA:decA inner A with
    | error n =>
      rw [hA] at hd
      simp only at hd
      simp only [outD,List.map_nil]
      simp only [↓vcPre,↓z0,↓reduceIte,vcPost,vcStd,Nat.reduceEqDiff,reduceCtorEq,Nat.reduceAdd,Nat.reduceLeDiff,Int.reduceLT,Int.reduceLE,↓u_setN]
      refine AllocQ.i0 fun p12 h12 => ?_
      simp only [↓vcPre,↓z0,↓reduceIte,vcPost,vcStd,Nat.reduceEqDiff,reduceCtorEq,Nat.reduceAdd,Nat.reduceLeDiff,Int.reduceLT,Int.reduceLE,↓u_setN]
      refine AllocQ.i1 fun p14 h1412 h1214 h14 => ?_
      have n4a:¬ p4=p12:=fun e=>by rw [e,h12] at T4;cases T4
      have n4b:¬ p4=p14:=fun e=>by rw [e,h14] at T4;cases T4
      have n5a:¬ p5=p12:=fun e=>by rw [e,h12] at T5;cases T5
      have n5b:¬ p5=p14:=fun e=>by rw [e,h14] at T5;cases T5
      simp only [h1412,h1214,e9,spZ,szn,↓vcPre,↓z0,↓reduceIte,vcPost,vcStd,Nat.reduceEqDiff,reduceCtorEq,Nat.reduceAdd,Nat.reduceLeDiff,Int.reduceLT,Int.reduceLE,↓u_setN]
      have sV:Store.sub X ((((X.set p12 (.box zC)).set p14 (.box zN)).set p12 (.box zeroAt.c)).set p14 (.box [.int .i64 3,.int .i64 n.1,.sl 1 (n.2.map cB)])):=z8 (z8 (zq h12 h14 h1412) h12) h14
      have V14:((((X.set p12 (.box zC)).set p14 (.box zN)).set p12 (.box zeroAt.c)).set p14 (.box [.int .i64 3,.int .i64 n.1,.sl 1 (n.2.map cB)])) p14=some (.box [.int .i64 3,.int .i64 n.1,.sl 1 (n.2.map cB)]):=Store.set_same _ _ _
      have V4:=sV _ _ T4
      have V5:=sV _ _ T5
      generalize ((((X.set p12 (.box zC)).set p14 (.box zN)).set p12 (.box zeroAt.c)).set p14 (.box [.int .i64 3,.int .i64 n.1,.sl 1 (n.2.map cB)]))=V at sV V14 V4 V5 ⊢
      have n14:¬ p14=p4:=fun e=>n4b e.symm
      simp only [V14,V4,V5,h54,h45,zl,szz,szn,n14,↓vcPre,↓z0,↓reduceIte,vcPost,vcStd,Nat.reduceEqDiff,reduceCtorEq,Nat.reduceAdd,Nat.reduceLeDiff,Int.reduceLT,Int.reduceLE,↓u_setN]
      have E:=bad V n (.sl 1 (n.2.map cB)) (Store.sub_trans hT sV) (.refl rfl) hd
      first | exact ⟨fun _=>⟨E,E⟩,fun h=>absurd h (by decide)⟩ | exact ⟨E,E⟩
    | ok x =>
      obtain ⟨a',ty⟩:=x
      rw [hA] at hd
      simp only at hd
      have hty:ty.length≤1000000:=by
       obtain ⟨A',T',p,q',M,h1,h2,h3⟩:=z2e inner uA lA
       rw [hA] at h3
       simp only [outD,AV.tup.injEq,List.cons.injEq,AV.sl.injEq,true_and] at h3
       have:=congrArg List.length h3.2.1
       simp only [List.length_map] at this
       omega
      simp only [outD,List.map_nil]
      simp only [↓vcPre,↓z0,↓reduceIte,vcPost,vcStd,Nat.reduceEqDiff,reduceCtorEq,Nat.reduceAdd,Nat.reduceLeDiff,Int.reduceLT,Int.reduceLE,↓u_setN]
      refine AllocQ.i0 fun p12 h12 => ?_
      simp only [↓vcPre,↓z0,↓reduceIte,vcPost,vcStd,Nat.reduceEqDiff,reduceCtorEq,Nat.reduceAdd,Nat.reduceLeDiff,Int.reduceLT,Int.reduceLE,↓u_setN]
      refine AllocQ.i1 fun p14 h1412 h1214 h14 => ?_
      simp only [h1412,h1214,e9,spZ,szn,↓vcPre,↓z0,↓reduceIte,vcPost,vcStd,Nat.reduceEqDiff,reduceCtorEq,Nat.reduceAdd,Nat.reduceLeDiff,Int.reduceLT,Int.reduceLE,↓u_setN]
      have sV:Store.sub X ((((X.set p12 (.box zC)).set p14 (.box zN)).set p12 (.box a'.c)).set p14 (.box [.int .i64 0,.int .i64 0,.sl 1 []])):=z8 (z8 (zq h12 h14 h1412) h12) h14
      have V14:((((X.set p12 (.box zC)).set p14 (.box zN)).set p12 (.box a'.c)).set p14 (.box [.int .i64 0,.int .i64 0,.sl 1 []])) p14=some (.box [.int .i64 0,.int .i64 0,.sl 1 []]):=Store.set_same _ _ _
      have V12:((((X.set p12 (.box zC)).set p14 (.box zN)).set p12 (.box a'.c)).set p14 (.box [.int .i64 0,.int .i64 0,.sl 1 []])) p12=some (.box a'.c):=by rw [Store.set_ne _ _ h1214];exact Store.set_same _ _ _
      have V4:=sV _ _ T4
      have V5:=sV _ _ T5
      have Vq:=sV _ _ Tq
      have Vi:=sV _ _ Ti
      have hqX:¬ p12=q:=fun e=>by rw [e,Tq] at h12;cases h12
      generalize ((((X.set p12 (.box zC)).set p14 (.box zN)).set p12 (.box a'.c)).set p14 (.box [.int .i64 0,.int .i64 0,.sl 1 []]))=V at sV V14 V12 V4 V5 Vq Vi ⊢
      have hσV:=Store.sub_trans hT sV
      simp only [Ts4.t47_59,yd,yw]
      have sp0:∀ v,splice 0 [v] zU=some (v::zU.drop 1):=fun _=>rfl
      simp only [V14,Vq,zl,sp0,↓vcPre,↓z0,↓reduceIte,vcPost,vcStd,Nat.reduceEqDiff,reduceCtorEq,Nat.reduceAdd,Nat.reduceLeDiff,Int.reduceLT,Int.reduceLE,↓u_setN]
      obtain ⟨w',hw',hrw⟩:=hr.from (lo:=at_) (by simpa using K6)
      have hsl:pv (.slice 1 true false) [v,.int .i64 (at_:Int)]=some w':=by rw [←hw'];rfl
      rw [←List.map_drop,←K7] at hrw
      have W4:=(Store.set_ne V (.box (AV.sl 2 (w.map pxC)::zU.drop 1)) hq4).trans V4
      have W5:=(Store.set_ne V (.box (AV.sl 2 (w.map pxC)::zU.drop 1)) hq5).trans V5
      have W12:=(Store.set_ne V (.box (AV.sl 2 (w.map pxC)::zU.drop 1)) hqX).trans V12
      have Wi:=(Store.set_ne V (.box (AV.sl 2 (w.map pxC)::zU.drop 1)) hqi).trans Vi
      have Wq:(V.set q (.box (AV.sl 2 (w.map pxC)::zU.drop 1))) q=some (.box (AV.sl 2 (w.map pxC)::zU.drop 1)):=Store.set_same _ _ _
      have hW:=z8 (o := .box (AV.sl 2 (w.map pxC)::zU.drop 1)) hσV hσq
      generalize V.set q (.box (AV.sl 2 (w.map pxC)::zU.drop 1))=W at W4 W5 W12 Wi Wq hW ⊢
      simp only [Wi,hsl,↓vcPre,↓z0,↓reduceIte,vcPost,vcStd,Nat.reduceEqDiff,reduceCtorEq,Nat.reduceAdd,Nat.reduceLeDiff,Int.reduceLT,Int.reduceLE,↓u_setN]
      refine (s91 (σ:=W) (B:=R) (hrw.mono hW) lR uR).Q ?_
      rintro r W' ⟨rfl,rfl⟩
      have sp11:∀ v u,splice 11 [v] (u::zU.drop 1)=some (u :: .bool false::(zC++[v])):=fun _ _=>rfl
      have zd:∀ u:AV,(u::zU.drop 1).length=12:=fun _=>rfl
      cases hR:dN R with
      | none =>
        rw [hR] at hd
        simp only at hd
        simp only [outN,List.map_nil]
        simp only [Wq,zl,zd,sp11,↓vcPre,↓z0,↓reduceIte,vcPost,vcStd,Nat.reduceEqDiff,reduceCtorEq,Nat.reduceAdd,Nat.reduceLeDiff,Int.reduceLT,Int.reduceLE,↓u_setN]
        refine (c90 10 .nils ⟨rfl,rfl⟩).Q ?_
        have Y4:=(Store.set_ne W' (.box (AV.sl 2 (w.map pxC) :: .bool false::(zC++[.sl 2 []]))) hq4).trans W4
        have Y5:=(Store.set_ne W' (.box (AV.sl 2 (w.map pxC) :: .bool false::(zC++[.sl 2 []]))) hq5).trans W5
        have hY:=z8 (o := .box (AV.sl 2 (w.map pxC) :: .bool false::(zC++[.sl 2 []]))) hW hσq
        generalize W'.set q (.box (AV.sl 2 (w.map pxC) :: .bool false::(zC++[.sl 2 []])))=Y at Y4 Y5 hY ⊢
        simp only [Y4,Y5,h54,h45,zl,szz,szn,↓vcPre,↓z0,↓reduceIte,vcPost,vcStd,Nat.reduceEqDiff,reduceCtorEq,Nat.reduceAdd,Nat.reduceLeDiff,Int.reduceLT,Int.reduceLE,↓u_setN]
        exact bad Y (10,[]) .nils hY .nils hd
      | some nl =>
        rw [hR] at hd
        simp only at hd
        simp only [outN]
        simp only [Wq,zl,zd,sp11,↓vcPre,↓z0,↓reduceIte,vcPost,vcStd,Nat.reduceEqDiff,reduceCtorEq,Nat.reduceAdd,Nat.reduceLeDiff,Int.reduceLT,Int.reduceLE,↓u_setN]
        have Y4:=(Store.set_ne W' (.box (AV.sl 2 (w.map pxC) :: .bool false::(zC++[.sl 2 (nl.map pxC)]))) hq4).trans W4
        have Y5:=(Store.set_ne W' (.box (AV.sl 2 (w.map pxC) :: .bool false::(zC++[.sl 2 (nl.map pxC)]))) hq5).trans W5
        have Y12:=(Store.set_ne W' (.box (AV.sl 2 (w.map pxC) :: .bool false::(zC++[.sl 2 (nl.map pxC)]))) hqX).trans W12
        have Yq:(W'.set q (.box (AV.sl 2 (w.map pxC) :: .bool false::(zC++[.sl 2 (nl.map pxC)])))) q=some (.box (AV.sl 2 (w.map pxC) :: .bool false::(zC++[.sl 2 (nl.map pxC)]))):=Store.set_same _ _ _
        have hY:=z8 (o := .box (AV.sl 2 (w.map pxC) :: .bool false::(zC++[.sl 2 (nl.map pxC)]))) hW hσq
        generalize W'.set q (.box (AV.sl 2 (w.map pxC) :: .bool false::(zC++[.sl 2 (nl.map pxC)])))=Y at Y4 Y5 Y12 Yq hY ⊢
        have q9:∀ (u:AV),List.take 1 (List.drop 9 (zC++[u]))=[u]:=fun _=>rfl
        have l10:∀ u:AV,List.take 10 (zC++[u])=zC++[u]:=fun _=>rfl
        have z10:∀ u:AV,(zC++[u]).length=10:=fun _=>rfl
        have s12:∀ l:List AV,l.length=12→splice 0 l zU=some l:=fun l h=>yg _ _ (by rw [h];rfl)
        have sA:=s12 (AV.sl 2 (w.map pxC) :: .bool false::(zC++[.sl 2 (nl.map pxC)])) rfl
        have zn:zN.length=3:=rfl
        have snn:splice 0 zN zN=some zN:=rfl
        simp only [Yq,q9,l10,z10,Y4,Y5,h54,h45,sA,zn,snn,↓vcPre,↓z0,↓reduceIte,vcPost,vcStd,Nat.reduceEqDiff,reduceCtorEq,Nat.reduceAdd,Nat.reduceLeDiff,Int.reduceLT,Int.reduceLE,↓u_setN]
        refine ⟨fun c1 => ?_,fun c1 => ?_⟩
        ·have hn0:nl=[]:=by cases nl with | nil=>rfl | cons x l=>simp at c1;try omega
         rw [if_pos hn0] at hd
         refine fin _ (AV.sl 2 (w.map pxC) :: .bool false::(zC++[.sl 2 (nl.map pxC)])) zN rfl rfl (by rw [Store.set_ne _ _ h45];exact Store.set_same _ _ _) (Store.set_same _ _ _) ?_
         refine WeakL.pos 0 rfl (Imp.agg (ds:=(⟨w,false,zeroAt,[]⟩:Up).c) ?_ (WeakL.pos 1 rfl (Imp.agg (ds:=[.int .i64 0,.int .i64 0,.sl 1 []]) (.cons (.refl rfl) (.cons (.refl rfl) (.cons .nils .nil))) (WeakL.forget (z8 (z8 hY h4) h5) (WeakL.pure ⟨rfl,?_⟩)))))
         ·rw [hn0]
          exact show ImpL (AV.sl 2 (w.map pxC) :: .bool false::(zC++[.sl 2 []])) (AV.sl 2 (w.map pxC) :: .bool false::(zeroAt.c++[.sl 2 []])) from .cons (.refl rfl) (.cons (.refl rfl) (zC_imp.append (.cons (.refl rfl) .nil)))
         ·simp only [List.set,hd,outU]
        ·have hn0:nl≠[]:=fun e=>by rw [e] at c1;simp at c1
         rw [if_neg hn0] at hd
         refine zck hty ?_ Y4 Y5 h45 h54 ?_
         ·intro e0 Z d hZ k
          rw [if_pos e0] at hd
          have Z4:=hZ _ _ Y4
          have Z5:=hZ _ _ Y5
          have Z12:=hZ _ _ Y12
          have Zq:=hZ _ _ Yq
          have hσZ:=Store.sub_trans hY hZ
          simp only [Ts4.t47_119,yd,yw]
          have k1:∀ (v u:AV),splice 1 [.bool true] (v :: .bool false::(zC++[u]))=some (v :: .bool true::(zC++[u])):=fun _ _=>rfl
          have k2:∀ (v u:AV),splice 2 a'.c (v :: .bool true::(zC++[u]))=some (v :: .bool true::(a'.c++[u])):=fun _ _=>rfl
          have l10':∀ u:AV,List.take 10 (a'.c++[u])=a'.c++[u]:=fun _=>rfl
          have a10:∀ u:AV,(a'.c++[u]).length=10:=fun _=>rfl
          have sB:=s12 (AV.sl 2 (w.map pxC) :: .bool true::(a'.c++[.sl 2 (nl.map pxC)])) rfl
          simp only [Z12,Zq,e9,t9,Nat.le_refl,k1,k2,l10',a10,z10,hq4,hq5,hqX,Z4,Z5,h54,h45,sB,zn,snn,↓vcPre,↓z0,↓reduceIte,vcPost,vcStd,Nat.reduceEqDiff,reduceCtorEq,Nat.reduceAdd,Nat.reduceLeDiff,Int.reduceLT,Int.reduceLE,↓u_setN]
          refine fin _ (⟨w,true,a',nl⟩:Up).c zN rfl rfl (by rw [Store.set_ne _ _ h45];exact Store.set_same _ _ _) (Store.set_same _ _ _) ?_
          refine WeakL.pos 1 rfl (Imp.agg (ds:=[.int .i64 0,.int .i64 0,.sl 1 []]) (.cons (.refl rfl) (.cons (.refl rfl) (.cons .nils .nil))) (WeakL.forget (z8 (z8 (z8 (z8 hσZ hσq) hσq) h4) h5) (WeakL.pure ⟨rfl,?_⟩)))
          simp only [List.set,hd,outU]
         ·intro e0 d D Dd hYd hYD
          rw [if_neg e0] at hd
          have D4:=hYD _ _ Y4
          have D5:=hYD _ _ Y5
          have hσd:σ d=none:=zj hY hYd
          have hd4:¬ d=p4:=fun e=>by rw [e,Y4] at hYd;cases hYd
          have hd5:¬ d=p5:=fun e=>by rw [e,Y5] at hYd;cases hYd
          have hDs:=Store.sub_trans hY hYD
          refine fin _ zU [.int .i64 3,.int .i64 3,.os d 1 0 1] rfl rfl (by rw [Store.set_ne _ _ h45];exact Store.set_same _ _ _) (Store.set_same _ _ _) ?_
          have Ed:((D.set p4 (.box zU)).set p5 (.box [.int .i64 3,.int .i64 3,.os d 1 0 1])) d=some (.arr 1 [[.int .u8 (lacksF ty inner)]]):=by rw [Store.set_ne _ _ hd5,Store.set_ne _ _ hd4];exact Dd
          have hE:Store.sub σ ((D.set p4 (.box zU)).set p5 (.box [.int .i64 3,.int .i64 3,.os d 1 0 1])):=z8 (z8 hDs h4) h5
          generalize (D.set p4 (.box zU)).set p5 (.box [.int .i64 3,.int .i64 3,.os d 1 0 1])=E at Ed hE ⊢
          refine WeakL.pos 0 rfl (Imp.agg z1l (WeakL.pos 1 rfl (Weak.agg (WeakL.freeze 2 rfl Ed (by simp) (WeakL.pure ⟨?_,WeakL.forget (sub_del hE hσd) (WeakL.pure ⟨rfl,?_⟩)⟩)))))
          ·simp [AV.flat]
          ·simp only [List.set,hd,outU];rfl
end Go.Am
namespace Go.Am
open Go.Proofs Go.Sort
theorem z81 {B g a r:List Int} (h:cutU B=some (g,a,r)):g.length≤B.length∧a.length≤B.length∧r.length≤B.length∧(∀ x ∈ g,x ∈ B)∧(∀ x ∈ a,x ∈ B)∧(∀ x ∈ r,x ∈ B):=by
 match B with
 | []=>cases h
 | [x]=>cases h
 | h0::l0::t =>
   simp only [cutU] at h
   split at h
   ·cases h
   ·split at h
    ·rename_i h2 l2 r2 e
     split at h
     ·cases h
     ·simp only [Option.some.injEq,Prod.mk.injEq] at h
      obtain ⟨rfl,rfl,rfl⟩:=h
      have hm:∀ x ∈ r2,x ∈ t:=fun x hx=>List.mem_of_mem_drop (i:=(h0*256+l0).toNat) (by rw [e];simp [hx])
      have hl:=congrArg List.length e
      simp only [List.length_drop,List.length_cons] at hl
      refine ⟨?_,?_,?_,fun x hx => ?_,fun x hx => ?_,fun x hx => ?_⟩
      ·simp only [List.length_take,List.length_cons];omega
      ·simp only [List.length_take,List.length_cons];omega
      ·simp only [List.length_drop,List.length_cons];omega
      ·simp [List.mem_of_mem_take hx]
      ·simp [hm x (List.mem_of_mem_take hx)]
      ·simp [hm x (List.mem_of_mem_drop hx)]
    ·cases h
theorem z6d:∀ (n:Nat) (B:List Int),B.length≤n→∀ l,dN B=some l→l.length≤B.length:=by
 intro n
 induction n with
 | zero =>
   intro B hB l h
   have:B=[]:=List.eq_nil_of_length_eq_zero (by omega)
   subst this
   rw [vq] at h;cases h;simp
 | succ n ih =>
   intro B hB l h
   match B,hB,h with
   | [],_,h=>rw [vq] at h;cases h;simp
   | x::r,hB,h =>
     rw [xw] at h
     split at h
     ·cases h
     ·split at h
      ·cases h
      ·cases hd:dN (r.drop (szN x)) with
       | none=>rw [hd] at h;cases h
       | some m =>
         rw [hd] at h
         simp only [Option.map_some,Option.some.injEq] at h
         subst h
         simp only [List.length_cons] at hB ⊢
         have:=ih _ (by rw [List.length_drop];omega) m hd
         rw [List.length_drop] at this
         omega
theorem z6e (inner:Bool) {B:List Int} (hu:U8s B) (hB:B.length≤1000000) {a:At} {ty:List Int} (h:decA inner B = .ok (a,ty)):a.ok:=by
 unfold decA at h
 cases hd:decL inner B.length B zeroAt [] [] with
 | error n=>rw [hd] at h;cases h
 | ok x =>
   obtain ⟨a',ty'⟩:=x
   rw [hd] at h
   have:=z02 inner _ _ _ _ _ _ _ hd hu hB yq
   simp only [Except.ok.injEq,Prod.mk.injEq] at h
   rw [←h.1]
   exact xu this.1
theorem z6r (inner:Bool) {B:List Int} (hu:U8s B) (hB:B.length≤1000000):∃ (A:Up) (p q:Int) (M:List Int),A.a.ok∧A.w.length≤1000000∧A.n.length≤1000000∧outU (decU inner B) = .tup [.agg A.c,.agg [.int .i64 p,.int .i64 q,.sl 1 (M.map cB)]]:=by
 cases h:decU inner B with
 | error n=>exact ⟨zeroUp,3,n.1,n.2,yq,by simp [zeroUp],by simp [zeroUp],rfl⟩
 | ok u =>
   refine ⟨u,0,0,[],?_⟩
   unfold decU at h
   cases hc:cutU B with
   | none=>rw [hc] at h;cases h
   | some x =>
     obtain ⟨g,a,r⟩:=x
     obtain ⟨k1,k2,k3,m1,m2,m3⟩:=z81 hc
     rw [hc] at h
     simp only at h
     cases hw:dN g with
     | none=>rw [hw] at h;cases h
     | some w =>
       rw [hw] at h
       simp only at h
       cases ha:decA inner a with
       | error n=>rw [ha] at h;cases h
       | ok x =>
         obtain ⟨a',ty⟩:=x
         have hok:=z6e inner (fun x hx=>hu x (m2 x hx)) (by omega) ha
         rw [ha] at h
         simp only at h
         cases hr:dN r with
         | none=>rw [hr] at h;cases h
         | some nl =>
           rw [hr] at h
           simp only at h
           have lw:=z6d _ _ (Nat.le_refl _) _ hw
           have ln:=z6d _ _ (Nat.le_refl _) _ hr
           split at h
           ·cases h
            exact ⟨yq,by simp only;omega,by simp,rfl⟩
           ·split at h
            ·cases h
             exact ⟨hok,by simp only;omega,by simp only;omega,rfl⟩
            ·cases h
set_option maxHeartbeats 1000000 in
theorem s20 {σ:Store} {B:List Int} {v:AV} (hr:Rd 1 σ (B.map cB) v) (hB:B.length≤1000000) (hu:U8s B):ACalls Tryz.prog 20 [v] σ (fun r s=>s=σ∧r = .bool true):=by
 refine ze Tst.F20 (by simp [Tst.F20,Fn.mkX]) ?_
 simp only [Tst.F20,Fn.mkX,Tst.b20,yd,yw]
 simp only [↓vcPre,↓z0,↓reduceIte,vcPost,vcStd,Nat.reduceEqDiff,reduceCtorEq,Nat.reduceAdd,Nat.reduceLeDiff,Int.reduceLT,Int.reduceLE,↓u_setN]
 refine AllocQ.i0 fun p hp => ?_
 simp only [↓vcPre,↓z0,↓reduceIte,vcPost,vcStd,Nat.reduceEqDiff,reduceCtorEq,Nat.reduceAdd,Nat.reduceLeDiff,Int.reduceLT,Int.reduceLE,↓u_setN]
 have hs0:=Store.sub_set σ p (.arr 1 [[.bool false],[.bool true]]) hp
 refine LoopQ.inv (S:=Nat×Store) (fun w=>[(0,v),(9,.os p 1 0 2),(10,.int .i64 2),(11,.int .i64 (w.1:Int))]) (fun w=>w.2) (fun w=>w.1≤2∧Store.sub σ w.2∧w.2 p=some (.arr 1 [[.bool false],[.bool true]])) (fun w=>3 - w.1) (0,σ.set p (.arr 1 [[.bool false],[.bool true]])) rfl (Store.sub_refl _) ⟨by simp,hs0,Store.set_same _ _ _⟩ ?_
 rintro ⟨k,s⟩ ⟨m1,m2,m3⟩
 simp only at m1 m2 m3
 simp only [↓vcPre,↓z0,↓reduceIte,vcPost,vcStd,Nat.reduceEqDiff,reduceCtorEq,Nat.reduceAdd,Nat.reduceLeDiff,Int.reduceLT,Int.reduceLE,↓u_setN]
 refine ⟨fun c1 => ?_,fun c1=>EndQ.to σ _ rfl m2 ⟨rfl,rfl⟩⟩
 have hk:k=0∨k=1:=by omega
 have hr':=hr.mono m2
 obtain ⟨bo,hbo⟩:∃ bo,bo=decide (k=1):=⟨_,rfl⟩
 obtain ⟨A,p1,p2,M,hA,hlw,hln,ho⟩:=z6r bo hu hB
 have D1:=s24 hr' hB hu bo
 have D2:=fun t (h:Store.sub s t)=>s47 (hr'.mono h) hB hu bo
 rw [ho] at D1
 simp only [ho] at D2
 have e9:∀ x:Up,x.c.length=12:=fun _=>rfl
 have t9:∀ x:Up,List.take 12 x.c=x.c:=fun _=>rfl
 have spZ:∀ x:Up,splice 0 x.c zU=some x.c:=fun _=>yg _ _ rfl
 have szn:∀ x y z:AV,splice 0 [x,y,z] zN=some [x,y,z]:=fun _ _ _=>rfl
 have tkb:∀ b:Bool,List.take 1 [AV.bool b]=[AV.bool b]:=fun _=>rfl
 have d01:decide ((0:Nat)=1)=false:=rfl
 have d11:decide ((1:Nat)=1)=true:=rfl
 rcases hk with rfl | rfl
 ·rw [d01] at hbo
  subst hbo
  refine ⟨by decide,?_⟩
  simp only [m3,↓vcPre,↓z0,↓reduceIte,vcPost,vcStd,Nat.reduceEqDiff,reduceCtorEq,Nat.reduceAdd,Nat.reduceLeDiff,Int.reduceLT,Int.reduceLE,↓u_setN]
  refine ⟨by decide,by decide,?_⟩
  simp only [List.getElem_cons_zero,tkb,↓vcPre,↓z0,↓reduceIte,vcPost,vcStd,Nat.reduceEqDiff,reduceCtorEq,Nat.reduceAdd,Nat.reduceLeDiff,Int.reduceLT,Int.reduceLE,↓u_setN]
  refine D1.Q ?_
  rintro r t ⟨rfl,rfl⟩
  simp only [↓vcPre,↓z0,↓reduceIte,vcPost,vcStd,Nat.reduceEqDiff,reduceCtorEq,Nat.reduceAdd,Nat.reduceLeDiff,Int.reduceLT,Int.reduceLE,↓u_setN]
  refine AllocQ.i0 fun a1 ha1 => ?_
  simp only [↓vcPre,↓z0,↓reduceIte,vcPost,vcStd,Nat.reduceEqDiff,reduceCtorEq,Nat.reduceAdd,Nat.reduceLeDiff,Int.reduceLT,Int.reduceLE,↓u_setN]
  refine AllocQ.i1 fun a2 h21 h12 ha2 => ?_
  simp only [h21,h12,e9,spZ,szn,↓vcPre,↓z0,↓reduceIte,vcPost,vcStd,Nat.reduceEqDiff,reduceCtorEq,Nat.reduceAdd,Nat.reduceLeDiff,Int.reduceLT,Int.reduceLE,↓u_setN]
  have sU:Store.sub t ((((t.set a1 (.box zU)).set a2 (.box zN)).set a1 (.box A.c)).set a2 (.box [.int .i64 p1,.int .i64 p2,.sl 1 (M.map cB)])):=z8 (z8 (zq ha1 ha2 h21) ha1) ha2
  have U1:((((t.set a1 (.box zU)).set a2 (.box zN)).set a1 (.box A.c)).set a2 (.box [.int .i64 p1,.int .i64 p2,.sl 1 (M.map cB)])) a1=some (.box A.c):=by rw [Store.set_ne _ _ h12,Store.set_same]
  have U2:((((t.set a1 (.box zU)).set a2 (.box zN)).set a1 (.box A.c)).set a2 (.box [.int .i64 p1,.int .i64 p2,.sl 1 (M.map cB)])) a2=some (.box [.int .i64 p1,.int .i64 p2,.sl 1 (M.map cB)]):=Store.set_same _ _ _
  generalize ((((t.set a1 (.box zU)).set a2 (.box zN)).set a1 (.box A.c)).set a2 (.box [.int .i64 p1,.int .i64 p2,.sl 1 (M.map cB)]))=U at sU U1 U2 ⊢
  refine (D2 _ sU).Q ?_
  rintro r t2 ⟨rfl,rfl⟩
  simp only [↓vcPre,↓z0,↓reduceIte,vcPost,vcStd,Nat.reduceEqDiff,reduceCtorEq,Nat.reduceAdd,Nat.reduceLeDiff,Int.reduceLT,Int.reduceLE,↓u_setN]
  refine AllocQ.i0 fun b1 hb1 => ?_
  simp only [↓vcPre,↓z0,↓reduceIte,vcPost,vcStd,Nat.reduceEqDiff,reduceCtorEq,Nat.reduceAdd,Nat.reduceLeDiff,Int.reduceLT,Int.reduceLE,↓u_setN]
  refine AllocQ.i1 fun b2 g21 g12 hb2 => ?_
  simp only [g21,g12,e9,spZ,szn,↓vcPre,↓z0,↓reduceIte,vcPost,vcStd,Nat.reduceEqDiff,reduceCtorEq,Nat.reduceAdd,Nat.reduceLeDiff,Int.reduceLT,Int.reduceLE,↓u_setN]
  have sW:Store.sub t2 ((((t2.set b1 (.box zU)).set b2 (.box zN)).set b1 (.box A.c)).set b2 (.box [.int .i64 p1,.int .i64 p2,.sl 1 (M.map cB)])):=z8 (z8 (zq hb1 hb2 g21) hb1) hb2
  have W1:((((t2.set b1 (.box zU)).set b2 (.box zN)).set b1 (.box A.c)).set b2 (.box [.int .i64 p1,.int .i64 p2,.sl 1 (M.map cB)])) b1=some (.box A.c):=by rw [Store.set_ne _ _ g12,Store.set_same]
  have W2:((((t2.set b1 (.box zU)).set b2 (.box zN)).set b1 (.box A.c)).set b2 (.box [.int .i64 p1,.int .i64 p2,.sl 1 (M.map cB)])) b2=some (.box [.int .i64 p1,.int .i64 p2,.sl 1 (M.map cB)]):=Store.set_same _ _ _
  generalize ((((t2.set b1 (.box zU)).set b2 (.box zN)).set b1 (.box A.c)).set b2 (.box [.int .i64 p1,.int .i64 p2,.sl 1 (M.map cB)]))=W at sW W1 W2 ⊢
  have W3:=sW _ _ U1
  have W4:=sW _ _ U2
  simp only [W1,W3,e9,t9,Nat.le_refl,↓vcPre,↓z0,↓reduceIte,vcPost,vcStd,Nat.reduceEqDiff,reduceCtorEq,Nat.reduceAdd,Nat.reduceLeDiff,Int.reduceLT,Int.reduceLE,↓u_setN]
  refine (c48 A A hA hA ⟨hlw,hln⟩ ⟨hlw,hln⟩).Q ?_
  rw [show decide (A=A)=true by simp]
  simp only [W2,W4,↓vcPre,↓z0,↓reduceIte,vcPost,vcStd,Nat.reduceEqDiff,reduceCtorEq,Nat.reduceAdd,Nat.reduceLeDiff,Int.reduceLT,Int.reduceLE,↓u_setN]
  refine (c43 p1 p2 M).Q ?_
  simp only [↓vcPre,↓z0,↓reduceIte,vcPost,vcStd,Nat.reduceEqDiff,reduceCtorEq,Nat.reduceAdd,Nat.reduceLeDiff,Int.reduceLT,Int.reduceLE,↓u_setN]
  refine NextQ.to (1,W) rfl (Store.sub_refl _) (by simp only;omega) ⟨by simp only;omega,Store.sub_trans m2 (Store.sub_trans sU sW),(Store.sub_trans sU sW) _ _ m3⟩
 ·rw [d11] at hbo
  subst hbo
  refine ⟨by decide,?_⟩
  simp only [m3,↓vcPre,↓z0,↓reduceIte,vcPost,vcStd,Nat.reduceEqDiff,reduceCtorEq,Nat.reduceAdd,Nat.reduceLeDiff,Int.reduceLT,Int.reduceLE,↓u_setN]
  refine ⟨by decide,by decide,?_⟩
  simp only [List.getElem_cons_succ,List.getElem_cons_zero,tkb,↓vcPre,↓z0,↓reduceIte,vcPost,vcStd,Nat.reduceEqDiff,reduceCtorEq,Nat.reduceAdd,Nat.reduceLeDiff,Int.reduceLT,Int.reduceLE,↓u_setN]
  refine D1.Q ?_
  rintro r t ⟨rfl,rfl⟩
  simp only [↓vcPre,↓z0,↓reduceIte,vcPost,vcStd,Nat.reduceEqDiff,reduceCtorEq,Nat.reduceAdd,Nat.reduceLeDiff,Int.reduceLT,Int.reduceLE,↓u_setN]
  refine AllocQ.i0 fun a1 ha1 => ?_
  simp only [↓vcPre,↓z0,↓reduceIte,vcPost,vcStd,Nat.reduceEqDiff,reduceCtorEq,Nat.reduceAdd,Nat.reduceLeDiff,Int.reduceLT,Int.reduceLE,↓u_setN]
  refine AllocQ.i1 fun a2 h21 h12 ha2 => ?_
  simp only [h21,h12,e9,spZ,szn,↓vcPre,↓z0,↓reduceIte,vcPost,vcStd,Nat.reduceEqDiff,reduceCtorEq,Nat.reduceAdd,Nat.reduceLeDiff,Int.reduceLT,Int.reduceLE,↓u_setN]
  have sU:Store.sub t ((((t.set a1 (.box zU)).set a2 (.box zN)).set a1 (.box A.c)).set a2 (.box [.int .i64 p1,.int .i64 p2,.sl 1 (M.map cB)])):=z8 (z8 (zq ha1 ha2 h21) ha1) ha2
  have U1:((((t.set a1 (.box zU)).set a2 (.box zN)).set a1 (.box A.c)).set a2 (.box [.int .i64 p1,.int .i64 p2,.sl 1 (M.map cB)])) a1=some (.box A.c):=by rw [Store.set_ne _ _ h12,Store.set_same]
  have U2:((((t.set a1 (.box zU)).set a2 (.box zN)).set a1 (.box A.c)).set a2 (.box [.int .i64 p1,.int .i64 p2,.sl 1 (M.map cB)])) a2=some (.box [.int .i64 p1,.int .i64 p2,.sl 1 (M.map cB)]):=Store.set_same _ _ _
  generalize ((((t.set a1 (.box zU)).set a2 (.box zN)).set a1 (.box A.c)).set a2 (.box [.int .i64 p1,.int .i64 p2,.sl 1 (M.map cB)]))=U at sU U1 U2 ⊢
  refine (D2 _ sU).Q ?_
  rintro r t2 ⟨rfl,rfl⟩
  simp only [↓vcPre,↓z0,↓reduceIte,vcPost,vcStd,Nat.reduceEqDiff,reduceCtorEq,Nat.reduceAdd,Nat.reduceLeDiff,Int.reduceLT,Int.reduceLE,↓u_setN]
  refine AllocQ.i0 fun b1 hb1 => ?_
  simp only [↓vcPre,↓z0,↓reduceIte,vcPost,vcStd,Nat.reduceEqDiff,reduceCtorEq,Nat.reduceAdd,Nat.reduceLeDiff,Int.reduceLT,Int.reduceLE,↓u_setN]
  refine AllocQ.i1 fun b2 g21 g12 hb2 => ?_
  simp only [g21,g12,e9,spZ,szn,↓vcPre,↓z0,↓reduceIte,vcPost,vcStd,Nat.reduceEqDiff,reduceCtorEq,Nat.reduceAdd,Nat.reduceLeDiff,Int.reduceLT,Int.reduceLE,↓u_setN]
  have sW:Store.sub t2 ((((t2.set b1 (.box zU)).set b2 (.box zN)).set b1 (.box A.c)).set b2 (.box [.int .i64 p1,.int .i64 p2,.sl 1 (M.map cB)])):=z8 (z8 (zq hb1 hb2 g21) hb1) hb2
  have W1:((((t2.set b1 (.box zU)).set b2 (.box zN)).set b1 (.box A.c)).set b2 (.box [.int .i64 p1,.int .i64 p2,.sl 1 (M.map cB)])) b1=some (.box A.c):=by rw [Store.set_ne _ _ g12,Store.set_same]
  have W2:((((t2.set b1 (.box zU)).set b2 (.box zN)).set b1 (.box A.c)).set b2 (.box [.int .i64 p1,.int .i64 p2,.sl 1 (M.map cB)])) b2=some (.box [.int .i64 p1,.int .i64 p2,.sl 1 (M.map cB)]):=Store.set_same _ _ _
  generalize ((((t2.set b1 (.box zU)).set b2 (.box zN)).set b1 (.box A.c)).set b2 (.box [.int .i64 p1,.int .i64 p2,.sl 1 (M.map cB)]))=W at sW W1 W2 ⊢
  have W3:=sW _ _ U1
  have W4:=sW _ _ U2
  simp only [W1,W3,e9,t9,Nat.le_refl,↓vcPre,↓z0,↓reduceIte,vcPost,vcStd,Nat.reduceEqDiff,reduceCtorEq,Nat.reduceAdd,Nat.reduceLeDiff,Int.reduceLT,Int.reduceLE,↓u_setN]
  refine (c48 A A hA hA ⟨hlw,hln⟩ ⟨hlw,hln⟩).Q ?_
  rw [show decide (A=A)=true by simp]
  simp only [W2,W4,↓vcPre,↓z0,↓reduceIte,vcPost,vcStd,Nat.reduceEqDiff,reduceCtorEq,Nat.reduceAdd,Nat.reduceLeDiff,Int.reduceLT,Int.reduceLE,↓u_setN]
  refine (c43 p1 p2 M).Q ?_
  simp only [↓vcPre,↓z0,↓reduceIte,vcPost,vcStd,Nat.reduceEqDiff,reduceCtorEq,Nat.reduceAdd,Nat.reduceLeDiff,Int.reduceLT,Int.reduceLE,↓u_setN]
  refine NextQ.to (2,W) rfl (Store.sub_refl _) (by simp only;omega) ⟨by simp only;omega,Store.sub_trans m2 (Store.sub_trans sU sW),(Store.sub_trans sU sW) _ _ m3⟩
end Go.Am
namespace Go.Am.Ts5
open Go.Proofs Go.Am.B
def t44_37:BC := .seq (z [f 37 1 1,l 38 1 37] [1,38] (.cond (.t 38) (z [f 39 2 1,⟨some 40,none,.load (.ld 9 true),[.t 39]⟩,g 41 74 [.t 40],m 2 41] [2] .ret) .skip)) (z [f 42 2 1,⟨some 43,none,.load (.ld 9 true),[.t 42]⟩,⟨some 6,none,.alloc (.alloc [(.int .i64 0),.nils,(.int .u32 0),(.bool false),(.int .u32 0),(.bool false),(.int .u32 0),(.bool false),.nils]),[]⟩,s 9 6 43] [6] (z [f 44 0 6,l 45 1 44,c 46 .eql 45 0,m 47 46,⟨some 48,some (47,true),.pure (.fld 1),[.t 6]⟩,⟨some 49,some (47,true),.load (.ld 1 false),[.t 48]⟩,⟨some 50,some (47,true),.pure (.len),[.t 49]⟩,⟨some 51,some (47,true),.pure (.bin .eql),[.t 50,.c (.int .i64 0)]⟩,⟨some 52,none,.pick,[.t 47,.t 51,.c (.bool false)]⟩,m 53 52,⟨some 54,some (53,true),.pure (.fld 2),[.t 6]⟩,⟨some 55,some (53,true),.load (.ld 1 false),[.t 54]⟩,⟨some 56,some (53,true),.pure (.bin .eql),[.t 55,.c (.int .u32 0)]⟩,⟨some 57,none,.pick,[.t 53,.t 56,.c (.bool false)]⟩,m 58 57,⟨some 59,some (58,true),.pure (.fld 3),[.t 6]⟩,⟨some 60,some (58,true),.load (.ld 1 false),[.t 59]⟩,⟨some 61,some (58,true),.pure (.not),[.t 60]⟩,⟨some 62,none,.pick,[.t 58,.t 61,.c (.bool false)]⟩,m 63 62,⟨some 64,some (63,true),.pure (.fld 4),[.t 6]⟩,⟨some 65,some (63,true),.load (.ld 1 false),[.t 64]⟩,⟨some 66,some (63,true),.pure (.bin .eql),[.t 65,.c (.int .u32 0)]⟩,⟨some 67,none,.pick,[.t 63,.t 66,.c (.bool false)]⟩,m 68 67,⟨some 69,some (68,true),.pure (.fld 5),[.t 6]⟩,⟨some 70,some (68,true),.load (.ld 1 false),[.t 69]⟩,⟨some 71,some (68,true),.pure (.not),[.t 70]⟩,⟨some 72,none,.pick,[.t 68,.t 71,.c (.bool false)]⟩,m 73 72,⟨some 74,some (73,true),.pure (.fld 6),[.t 6]⟩,⟨some 75,some (73,true),.load (.ld 1 false),[.t 74]⟩,⟨some 76,some (73,true),.pure (.bin .eql),[.t 75,.c (.int .u32 0)]⟩,⟨some 77,none,.pick,[.t 73,.t 76,.c (.bool false)]⟩,m 78 77,⟨some 79,some (78,true),.pure (.fld 7),[.t 6]⟩,⟨some 80,some (78,true),.load (.ld 1 false),[.t 79]⟩,⟨some 81,some (78,true),.pure (.not),[.t 80]⟩,⟨some 82,none,.pick,[.t 78,.t 81,.c (.bool false)]⟩,m 83 82,⟨some 84,some (83,true),.pure (.fld 8),[.t 6]⟩,⟨some 85,some (83,true),.load (.ld 1 false),[.t 84]⟩,⟨some 86,some (83,true),.pure (.len),[.t 85]⟩,⟨some 87,some (83,true),.pure (.bin .eql),[.t 86,.c (.int .i64 0)]⟩,⟨some 88,none,.pick,[.t 83,.t 87,.c (.bool false)]⟩,m 2 88] [2] .ret))
def t44_30:BC := .seq (z [f 30 1 1,l 31 1 30,f 32 11 1,l 33 1 32,u 34 .len 33,c 35 .gtr 34 0,p 36 (.eqb true) [.t 31,.t 35]] [1,36] (.cond (.t 36) (z [k 2 (.bool false)] [2] .ret) .skip)) t44_37
def b44:BC:=z [⟨some 1,none,.alloc (.box),[.t 0]⟩,k 2 (.bool false)] [1] (.seq (z [f 7 0 1,l 8 1 7,f 9 11 1,l 10 1 9,⟨some 11,none,.alloc (.mksl 1 2),[.t 8,.t 10]⟩,u 12 .len 11,j 13 0] [1,11,12,13] (.block 0 (.loop [1,11,12,13] (z [b 14 .lss 13 12] [1,11,12,13,14] (.seq (.cond (.t 14) .skip (.exit 0)) (.seq (.block 1 (z [x 15 1 11 13,l 16 1 15,m 4 16] [1,4,11,12,13] (z [j 5 0] [1,4,5,11,12,13] (.block 2 (.loop [1,4,5,11,12,13] (.seq (z [m 17 5,m 18 4,u 19 .len 18,b 20 .lss 17 19] [1,4,5,11,12,13,20] (.cond (.t 20) .skip (.exit 2))) (.seq (.block 3 (z [m 23 4,m 24 5,x 25 2 23 24,⟨some 26,none,.load (.ld 2 true),[.t 25]⟩,g 27 49 [.t 26],u 28 .not 27] [1,4,5,11,12,13,28] (.cond (.t 28) (z [k 2 (.bool false)] [2] .ret) .skip))) (.ops [m 21 5,c 22 .add 21 1,m 5 22] [1,4,5,11,12,13])))))))) (.ops [c 29 .add 13 1,m 13 29] [1,11,12,13]))))))) t44_30)
def F44:Fn Tryz.prog 44:=Fn.mkX false b44 [.t 2] 89 Tryz.f44 _ Tryz.func44 (by decide) rfl Tryz.ntmps44 (by kernel_rfl) (by kernel_rfl)
end Go.Am.Ts5
namespace Go.Am
open Go.Proofs Go.Sort
def zAt (a:At):Bool:=decide (a.org=0∧a.path.length=0∧a.nxt=0∧a.hm=false∧a.med=0∧a.hp=false∧a.prf=0∧a.atm=false∧a.cms.length=0)
def rightU (u:Up):Bool:=(u.w.all fun p=>rightF p.1 p.2) && ((u.n.all fun p=>rightF p.1 p.2) && (decide (u.has=decide (0<u.n.length)) && (if u.has then decide (atRight u.a) else zAt u.a)))
set_option maxHeartbeats 2000000 in
theorem zcj {u:Up} (hu:u.a.ok) {T σ:Store} {p:Nat} {b:Bool} (Tp:T p=some (.box u.c)) (hs:Store.sub σ T) (n rr:Env→Store→Prop) {xx:Nat→Env→Store→Prop}
 (fin:∀ T',Store.sub σ T'→∀ r,r=(if u.has then decide (atRight u.a) else zAt u.a)→rr [(2,.bool r)] T') :
 bwp Tryz.prog Ts5.t44_37 [(1,.ptr p 0),(36,.bool b)] T n rr xx:=by
 simp only [Ts5.t44_37,wi]
 have e9:∀ x:At,x.c.length=9:=fun _=>rfl
 have f1:∀ x:Up,List.take 1 (List.drop 1 x.c)=[.bool x.has]:=fun _=>rfl
 have f2:∀ x:Up,List.take 9 (List.drop 2 x.c)=x.a.c:=fun _=>rfl
 have spZ:∀ x:At,splice 0 x.c zC=some x.c:=fun _=>rfl
 simp only [Tp,f1,f2,zw,↓vcPre,↓z0,↓reduceIte,vcPost,vcStd,Nat.reduceEqDiff,reduceCtorEq,Nat.reduceAdd,Nat.reduceLeDiff,Int.reduceLT,Int.reduceLE,↓u_setN]
 cases hh:u.has with
 | true =>
   simp only [↓vcPre,↓z0,↓reduceIte,vcPost,vcStd,Nat.reduceEqDiff,reduceCtorEq,Nat.reduceAdd,Nat.reduceLeDiff,Int.reduceLT,Int.reduceLE,↓u_setN]
   refine (c74 _ hu).Q ?_
   simp only [↓vcPre,↓z0,↓reduceIte,vcPost,vcStd,Nat.reduceEqDiff,reduceCtorEq,Nat.reduceAdd,Nat.reduceLeDiff,Int.reduceLT,Int.reduceLE,↓u_setN]
   exact fin T hs _ (by rw [hh];rfl)
 | false =>
   simp only [↓vcPre,↓z0,↓reduceIte,vcPost,vcStd,Nat.reduceEqDiff,reduceCtorEq,Nat.reduceAdd,Nat.reduceLeDiff,Int.reduceLT,Int.reduceLE,↓u_setN]
   refine AllocQ.i0 fun q hq => ?_
   have g0:List.take 1 u.a.c=[.int .i64 u.a.org]:=rfl
   have g1:List.take 1 (List.drop 1 u.a.c)=[.sl 2 (u.a.path.map Seg.c)]:=rfl
   have g2:List.take 1 (List.drop 2 u.a.c)=[.int .u32 u.a.nxt]:=rfl
   have g3:List.take 1 (List.drop 3 u.a.c)=[.bool u.a.hm]:=rfl
   have g4:List.take 1 (List.drop 4 u.a.c)=[.int .u32 u.a.med]:=rfl
   have g5:List.take 1 (List.drop 5 u.a.c)=[.bool u.a.hp]:=rfl
   have g6:List.take 1 (List.drop 6 u.a.c)=[.int .u32 u.a.prf]:=rfl
   have g7:List.take 1 (List.drop 7 u.a.c)=[.bool u.a.atm]:=rfl
   have g8:List.take 1 (List.drop 8 u.a.c)=[.sl 1 (u.a.cms.map cU)]:=rfl
   have hT:=fin _ (z8 (o := .box u.a.c) (Store.sub_trans hs (Store.sub_set T q (.box zC) hq)) (zj hs hq))
   rw [hh] at hT
   simp only [Bool.false_eq_true,if_false] at hT
   simp only [e9,spZ,g0,g1,g2,g3,g4,g5,g6,g7,g8,↓vcPre,↓z0,↓reduceIte,vcPost,vcStd,Nat.reduceEqDiff,reduceCtorEq,Nat.reduceAdd,Nat.reduceLeDiff,Int.reduceLT,Int.reduceLE,↓u_setN]
   have F:¬ (u.a.org=0∧u.a.path.length=0∧u.a.nxt=0∧u.a.hm=false∧u.a.med=0∧u.a.hp=false∧u.a.prf=0∧u.a.atm=false∧u.a.cms.length=0)→rr [(2,.bool false)] ((T.set q (.box zC)).set q (.box u.a.c)):=fun h=>hT false (decide_eq_false h).symm
   refine ⟨fun h0=>⟨fun h1=>⟨fun h2 => ?_,fun h=>F fun e=>h e.2.2.1⟩,fun h=>F fun e=>h (by rw [e.2.1];rfl)⟩,fun h=>F fun e=>h e.1⟩
   cases h3:u.a.hm with
   | true=>simp only [↓vcPre,↓z0,↓reduceIte,vcPost,vcStd,Nat.reduceEqDiff,reduceCtorEq,Nat.reduceAdd,Nat.reduceLeDiff,Int.reduceLT,Int.reduceLE,↓u_setN];exact F fun e=>by rw [h3] at e;exact absurd e.2.2.2.1 (by decide)
   | false =>
   simp only [↓vcPre,↓z0,↓reduceIte,vcPost,vcStd,Nat.reduceEqDiff,reduceCtorEq,Nat.reduceAdd,Nat.reduceLeDiff,Int.reduceLT,Int.reduceLE,↓u_setN]
   refine ⟨fun h4 => ?_,fun h=>F fun e=>h e.2.2.2.2.1⟩
   cases h5:u.a.hp with
   | true=>simp only [↓vcPre,↓z0,↓reduceIte,vcPost,vcStd,Nat.reduceEqDiff,reduceCtorEq,Nat.reduceAdd,Nat.reduceLeDiff,Int.reduceLT,Int.reduceLE,↓u_setN];exact F fun e=>by rw [h5] at e;exact absurd e.2.2.2.2.2.1 (by decide)
   | false =>
   simp only [↓vcPre,↓z0,↓reduceIte,vcPost,vcStd,Nat.reduceEqDiff,reduceCtorEq,Nat.reduceAdd,Nat.reduceLeDiff,Int.reduceLT,Int.reduceLE,↓u_setN]
   refine ⟨fun h6 => ?_,fun h=>F fun e=>h e.2.2.2.2.2.2.1⟩
   cases h7:u.a.atm with
   | true=>simp only [↓vcPre,↓z0,↓reduceIte,vcPost,vcStd,Nat.reduceEqDiff,reduceCtorEq,Nat.reduceAdd,Nat.reduceLeDiff,Int.reduceLT,Int.reduceLE,↓u_setN];exact F fun e=>by rw [h7] at e;exact absurd e.2.2.2.2.2.2.2.1 (by decide)
   | false =>
   simp only [↓vcPre,↓z0,↓reduceIte,vcPost,vcStd,Nat.reduceEqDiff,reduceCtorEq,Nat.reduceAdd,Nat.reduceLeDiff,Int.reduceLT,Int.reduceLE,↓u_setN]
   refine hT _ ?_
   unfold zAt
   rw [decide_eq_decide]
   exact ⟨fun h=>⟨h0,by omega,h2,h3,h4,h5,h6,h7,by omega⟩,fun h=>by rw [h.2.2.2.2.2.2.2.2];rfl⟩
end Go.Am
namespace Go.Am
open Go.Proofs Go.Sort
theorem vd {l:List (Int×Int)} {j:Nat} (hj:j<l.length) (h:(l.take j).all (fun p=>rightF p.1 p.2)=true) (h2:rightF l[j].1 l[j].2=true):(l.take (j+1)).all (fun p=>rightF p.1 p.2)=true:=by
 rw [List.take_succ_eq_append_getElem hj,List.all_append,h]
 simp [h2]
theorem z1m {l:List (Int×Int)} {j:Nat} (hj:j<l.length) (h2:rightF l[j].1 l[j].2=false):l.all (fun p=>rightF p.1 p.2)=false:=by
 rw [List.all_eq_false]
 exact ⟨l[j],List.getElem_mem hj,by simp [h2]⟩
set_option maxHeartbeats 2000000 in
theorem c44 (u:Up) (hu:u.a.ok) (lw:u.w.length≤1000000) (ln:u.n.length≤1000000):Pur Tryz.prog 44 [.agg u.c] (.bool (rightU u)):=by
 refine zo Ts5.F44 (by simp [Ts5.F44,Fn.mkX]) fun σ => ?_
 simp only [Ts5.F44,Fn.mkX,Ts5.b44]
 have f0:List.take 1 u.c=[.sl 2 (u.w.map pxC)]:=rfl
 have f1:List.take 1 (List.drop 1 u.c)=[.bool u.has]:=rfl
 have f11:List.take 1 (List.drop 11 u.c)=[.sl 2 (u.n.map pxC)]:=rfl
 have m2:∀ a b:List (List AV),alv (.mksl 1 2) [.sl 2 a,.sl 2 b]=some (.arr 1 [[.sl 2 a],[.sl 2 b]],fun id => .os id 1 0 2):=fun _ _=>rfl
 simp only [zw,↓vcPre,↓z0,↓reduceIte,vcPost,vcStd,Nat.reduceEqDiff,reduceCtorEq,Nat.reduceAdd,Nat.reduceLeDiff,Int.reduceLT,Int.reduceLE,↓u_setN]
 refine AllocQ.i0 fun p hp => ?_
 have hP:=Store.sub_set σ p (.box u.c) hp
 have P1:(σ.set p (.box u.c)) p=some (.box u.c):=Store.set_same _ _ _
 generalize σ.set p (.box u.c)=P at hP P1 ⊢
 simp only [P1,f0,f11,zw,m2,↓vcPre,↓z0,↓reduceIte,vcPost,vcStd,Nat.reduceEqDiff,reduceCtorEq,Nat.reduceAdd,Nat.reduceLeDiff,Int.reduceLT,Int.reduceLE,↓u_setN]
 refine AllocQ.i0 fun d hd => ?_
 simp only [↓vcPre,↓z0,↓reduceIte,vcPost,vcStd,Nat.reduceEqDiff,reduceCtorEq,Nat.reduceAdd,Nat.reduceLeDiff,Int.reduceLT,Int.reduceLE,↓u_setN]
 have hD:=Store.sub_set P d (.arr 1 [[.sl 2 (u.w.map pxC)],[.sl 2 (u.n.map pxC)]]) hd
 have D2:(P.set d (.arr 1 [[.sl 2 (u.w.map pxC)],[.sl 2 (u.n.map pxC)]])) d=some (.arr 1 [[.sl 2 (u.w.map pxC)],[.sl 2 (u.n.map pxC)]]):=Store.set_same _ _ _
 have D1:=hD _ _ P1
 generalize P.set d (.arr 1 [[.sl 2 (u.w.map pxC)],[.sl 2 (u.n.map pxC)]])=D at hD D1 D2 ⊢
 have hσD:=Store.sub_trans hP hD
 refine LoopQ.inv (S:=Nat) (fun k=>[(1,.ptr p 0),(11,.os d 1 0 2),(12,.int .i64 2),(13,.int .i64 (k:Int))]) (fun _=>D) (fun k=>k≤2∧(1≤k→u.w.all (fun p=>rightF p.1 p.2)=true)∧(2≤k→u.n.all (fun p=>rightF p.1 p.2)=true)) (fun k=>3 - k) 0 rfl (Store.sub_refl _) ⟨by omega,by omega,by omega⟩ ?_
 rintro k ⟨hk,hk1,hk2⟩
 simp only [↓vcPre,↓z0,↓reduceIte,vcPost,vcStd,Nat.reduceEqDiff,reduceCtorEq,Nat.reduceAdd,Nat.reduceLeDiff,Int.reduceLT,Int.reduceLE,↓u_setN]
 refine ⟨fun c1 => ?_,fun c1 => ?_⟩
 ·have hk4:k=0∨k=1:=by omega
  rcases hk4 with rfl | rfl
  ·simp only [D2,↓vcPre,↓z0,↓reduceIte,vcPost,vcStd,Nat.reduceEqDiff,reduceCtorEq,Nat.reduceAdd,Nat.reduceLeDiff,Int.reduceLT,Int.reduceLE,↓u_setN]
   refine ⟨by omega,by simp,?_⟩
   simp only [List.getElem_cons_zero,List.getElem_cons_succ]
   simp only [↓vcPre,↓z0,↓reduceIte,vcPost,vcStd,Nat.reduceEqDiff,reduceCtorEq,Nat.reduceAdd,Nat.reduceLeDiff,Int.reduceLT,Int.reduceLE,↓u_setN]
   refine LoopQ.inv (S:=Nat) (fun j=>[(1,.ptr p 0),(4,.sl 2 (u.w.map pxC)),(5,.int .i64 (j:Int)),(11,.os d 1 0 2),(12,.int .i64 2),(13,.int .i64 ((0:Nat):Int))]) (fun _=>D) (fun j=>j≤u.w.length∧(u.w.take j).all (fun p=>rightF p.1 p.2)=true) (fun j=>u.w.length+1 - j) 0 rfl (Store.sub_refl _) ⟨by omega,rfl⟩ ?_
   rintro j ⟨hj,ha⟩
   simp only [↓vcPre,↓z0,↓reduceIte,vcPost,vcStd,Nat.reduceEqDiff,reduceCtorEq,Nat.reduceAdd,Nat.reduceLeDiff,Int.reduceLT,Int.reduceLE,↓u_setN]
   refine ⟨fun c2 => ?_,fun c2 => ?_⟩
   ·have ej:IntKind.i64.wrap ((j:Int)+1)=((j+1:Nat):Int):=by rw [zb (by unfold I64;omega)];omega
    have hjl:j<u.w.length:=by omega
    simp only [pxC,↓vcPre,↓z0,↓reduceIte,vcPost,vcStd,Nat.reduceEqDiff,reduceCtorEq,Nat.reduceAdd,Nat.reduceLeDiff,Int.reduceLT,Int.reduceLE,↓u_setN]
    refine ⟨hjl,?_⟩
    refine (c49 _ _).Q ?_
    simp only [ej,↓vcPre,↓z0,↓reduceIte,vcPost,vcStd,Nat.reduceEqDiff,reduceCtorEq,Nat.reduceAdd,Nat.reduceLeDiff,Int.reduceLT,Int.reduceLE,↓u_setN]
    cases hg:rightF u.w[j].1 u.w[j].2 with
    | true =>
      simp only [↓vcPre,↓z0,↓reduceIte,vcPost,vcStd,Nat.reduceEqDiff,reduceCtorEq,Nat.reduceAdd,Nat.reduceLeDiff,Int.reduceLT,Int.reduceLE,↓u_setN]
      exact NextQ.to (j+1) rfl (Store.sub_refl _) (by omega) ⟨by omega,vd hjl ha hg⟩
    | false =>
      simp only [↓vcPre,↓z0,↓reduceIte,vcPost,vcStd,Nat.reduceEqDiff,reduceCtorEq,Nat.reduceAdd,Nat.reduceLeDiff,Int.reduceLT,Int.reduceLE,↓u_setN]
      have:=z1m hjl hg
      refine ⟨?_,hσD⟩
      simp [rightU,this]
   ·have hjl:j=u.w.length:=by omega
    rw [hjl,List.take_length] at ha
    refine NextQ.to 1 rfl (Store.sub_refl _) (by omega) ⟨by omega,?_,?_⟩
    ·intro _;first | exact ha | exact hk1 (by omega)
    ·intro h;first | exact ha | omega
  ·simp only [D2,↓vcPre,↓z0,↓reduceIte,vcPost,vcStd,Nat.reduceEqDiff,reduceCtorEq,Nat.reduceAdd,Nat.reduceLeDiff,Int.reduceLT,Int.reduceLE,↓u_setN]
   refine ⟨by omega,by simp,?_⟩
   simp only [List.getElem_cons_zero,List.getElem_cons_succ]
   simp only [↓vcPre,↓z0,↓reduceIte,vcPost,vcStd,Nat.reduceEqDiff,reduceCtorEq,Nat.reduceAdd,Nat.reduceLeDiff,Int.reduceLT,Int.reduceLE,↓u_setN]
   refine LoopQ.inv (S:=Nat) (fun j=>[(1,.ptr p 0),(4,.sl 2 (u.n.map pxC)),(5,.int .i64 (j:Int)),(11,.os d 1 0 2),(12,.int .i64 2),(13,.int .i64 ((1:Nat):Int))]) (fun _=>D) (fun j=>j≤u.n.length∧(u.n.take j).all (fun p=>rightF p.1 p.2)=true) (fun j=>u.n.length+1 - j) 0 rfl (Store.sub_refl _) ⟨by omega,rfl⟩ ?_
   rintro j ⟨hj,ha⟩
   simp only [↓vcPre,↓z0,↓reduceIte,vcPost,vcStd,Nat.reduceEqDiff,reduceCtorEq,Nat.reduceAdd,Nat.reduceLeDiff,Int.reduceLT,Int.reduceLE,↓u_setN]
   refine ⟨fun c2 => ?_,fun c2 => ?_⟩
   ·have ej:IntKind.i64.wrap ((j:Int)+1)=((j+1:Nat):Int):=by rw [zb (by unfold I64;omega)];omega
    have hjl:j<u.n.length:=by omega
    simp only [pxC,↓vcPre,↓z0,↓reduceIte,vcPost,vcStd,Nat.reduceEqDiff,reduceCtorEq,Nat.reduceAdd,Nat.reduceLeDiff,Int.reduceLT,Int.reduceLE,↓u_setN]
    refine ⟨hjl,?_⟩
    refine (c49 _ _).Q ?_
    simp only [ej,↓vcPre,↓z0,↓reduceIte,vcPost,vcStd,Nat.reduceEqDiff,reduceCtorEq,Nat.reduceAdd,Nat.reduceLeDiff,Int.reduceLT,Int.reduceLE,↓u_setN]
    cases hg:rightF u.n[j].1 u.n[j].2 with
    | true =>
      simp only [↓vcPre,↓z0,↓reduceIte,vcPost,vcStd,Nat.reduceEqDiff,reduceCtorEq,Nat.reduceAdd,Nat.reduceLeDiff,Int.reduceLT,Int.reduceLE,↓u_setN]
      exact NextQ.to (j+1) rfl (Store.sub_refl _) (by omega) ⟨by omega,vd hjl ha hg⟩
    | false =>
      simp only [↓vcPre,↓z0,↓reduceIte,vcPost,vcStd,Nat.reduceEqDiff,reduceCtorEq,Nat.reduceAdd,Nat.reduceLeDiff,Int.reduceLT,Int.reduceLE,↓u_setN]
      have:=z1m hjl hg
      refine ⟨?_,hσD⟩
      simp [rightU,this]
   ·have hjl:j=u.n.length:=by omega
    rw [hjl,List.take_length] at ha
    refine NextQ.to 2 rfl (Store.sub_refl _) (by omega) ⟨by omega,?_,?_⟩
    ·intro _;first | exact ha | exact hk1 (by omega)
    ·intro h;first | exact ha | omega
 ·have hk4:k=2:=by omega
  subst hk4
  have hw:=hk1 (by omega)
  have hn:=hk2 (by omega)
  simp only [Ts5.t44_30]
  simp only [D1,f1,f11,zw,↓vcPre,↓z0,↓reduceIte,vcPost,vcStd,Nat.reduceEqDiff,reduceCtorEq,Nat.reduceAdd,Nat.reduceLeDiff,Int.reduceLT,Int.reduceLE,↓u_setN]
  have hru:rightU u=(decide (u.has=decide (0<u.n.length)) && (if u.has then decide (atRight u.a) else zAt u.a)):=by
   unfold rightU;rw [hw,hn];rfl
  have hdn:(decide (u.has=decide (0<u.n.length))) = !(u.has != decide (0<(u.n.length:Int))):=by
   have e:decide (0<(u.n.length:Int))=decide (0<u.n.length):=decide_eq_decide.2 (by omega)
   rw [e]
   cases u.has <;> cases decide (0<u.n.length) <;> rfl
  rw [hdn] at hru
  cases hb:(u.has != decide (0<(u.n.length:Int))) with
  | true =>
    rw [hb] at hru
    simp only [↓vcPre,↓z0,↓reduceIte,vcPost,vcStd,Nat.reduceEqDiff,reduceCtorEq,Nat.reduceAdd,Nat.reduceLeDiff,Int.reduceLT,Int.reduceLE,↓u_setN]
    exact ⟨by rw [hru];rfl,hσD⟩
  | false =>
    rw [hb] at hru
    simp only [↓vcPre,↓z0,↓reduceIte,vcPost,vcStd,Nat.reduceEqDiff,reduceCtorEq,Nat.reduceAdd,Nat.reduceLeDiff,Int.reduceLT,Int.reduceLE,↓u_setN]
    exact zcj hu D1 hσD _ _ fun T' hs r hr=>⟨by rw [hru,←hr];rfl,hs⟩
end Go.Am
namespace Go.Am.Ts6
open Go.Proofs Go.Am.B
def t18_30:BC := .seq (z [m 30 4,u 31 .len 30,p 32 (.bin .add) [.c (.int .i64 4),.t 31],m 33 8,u 34 .len 33,b 35 .add 32 34,m 36 6,u 37 .len 36,b 38 .add 35 37,c 39 .gtr 38 4077] [4,6,8,39] (.cond (.t 39) (z [k 2 .nils,j 3 3] [2,3] .ret) .skip)) (z [m 40 4,u 41 .len 40,g 42 23 [.c .nils,.t 41],m 43 4,⟨some 44,none,.loud (.app 1 1),[.t 42,.t 43]⟩,m 9 44] [6,8,9] (z [m 45 9,m 46 8,u 47 .len 46,g 48 23 [.t 45,.t 47],m 49 8,⟨some 50,none,.loud (.app 1 1),[.t 48,.t 49]⟩,m 9 50] [6,9] (z [m 51 9,m 52 6,⟨some 53,none,.loud (.app 1 1),[.t 51,.t 52]⟩,m 2 53,j 3 0] [2,3] .ret)))
def b18:BC:=z [⟨some 1,none,.alloc (.box),[.t 0]⟩,k 2 .nils,j 3 0] [1] (.seq (z [⟨some 10,none,.load (.ld 12 true),[.t 1]⟩,g 11 44 [.t 10],u 12 .not 11] [1,12] (.cond (.t 12) (z [k 2 .nils,j 3 12] [2,3] .ret) .skip)) (z [f 14 0 1,l 15 1 14,g 16 22 [.t 15],m 13 16,e 17 0 13,e 18 1 13,m 4 17,m 5 18] [1,4] (z [f 20 11 1,l 21 1 20,g 22 22 [.t 21],m 19 22,e 23 0 19,e 24 1 19,m 6 23,m 7 24] [1,4,6] (z [k 8 .nils] [1,4,6,8] (.seq (z [f 25 1 1,l 26 1 25] [1,4,6,8,26] (.cond (.t 26) (.ops [f 27 2 1,⟨some 28,none,.load (.ld 9 true),[.t 27]⟩,g 29 11 [.t 28],m 8 29] [4,6,8]) .skip)) t18_30)))))
def F18:Fn Tryz.prog 18:=Fn.mkX false b18 [.t 2,.t 3] 54 Tryz.f18 _ Tryz.func18 (by decide) rfl Tryz.ntmps18 (by kernel_rfl) (by kernel_rfl)
end Go.Am.Ts6
namespace Go.Am
open Go.Proofs Go.Sort
def joinU (W A N:List Int):List Int:=u16 W.length++W++(u16 A.length++A)++N
theorem Own.down {esz:Nat} {σ τ s:Store} {L:List (List AV)} {v:AV} (h:Own esz τ L v s) (hs:Store.sub σ τ):Own esz σ L v s:=by
 rcases h with h | ⟨g,h1,h2,h3⟩
 ·exact .inl h
 ·exact .inr ⟨g,h1,zj hs h2,h3⟩
set_option maxHeartbeats 1000000 in
theorem z4x {W A N:List Int} {σ s:Store} {wv av nv:AV} (hs:Store.sub σ s) (hw:Rd 1 s (W.map cB) wv) (ha:Rd 1 s (A.map cB) av) (hn:Rd 1 s (N.map cB) nv) (lW:W.length≤10000000) (lA:A.length≤10000000) (lN:N.length≤10000000) (E:List (Nat×AV)) (hE:E=[(4,wv),(6,nv),(8,av)]∨∃ p,E=[(1,.ptr p 0),(4,wv),(6,nv),(8,av),(26,.bool false)]) {n rr:Env→Store→Prop} {xx:Nat→Env→Store→Prop}
 (long:4077<4+W.length+A.length+N.length→rr [(2,.nils),(3,.int .i64 3)] s)
 (fin:¬ 4077<4+W.length+A.length+N.length→∀ v s',Store.sub σ s'→Own 1 σ ((joinU W A N).map cB) v s'→rr [(2,v),(3,.int .i64 0)] s') :
 bwp Tryz.prog Ts6.t18_30 E s n rr xx:=by
 simp only [Ts6.t18_30]
 have lw:pv .len [wv]=some (.int .i64 (W.length:Int)):=by rw [hw.2];simp
 have la:pv .len [av]=some (.int .i64 (A.length:Int)):=by rw [ha.2];simp
 have ln:pv .len [nv]=some (.int .i64 (N.length:Int)):=by rw [hn.2];simp
 have w1:IntKind.i64.wrap (4+(W.length:Int))=4+(W.length:Int):=zb (by unfold I64;omega)
 have w2:IntKind.i64.wrap (4+(W.length:Int)+(A.length:Int))=4+(W.length:Int)+(A.length:Int):=zb (by unfold I64;omega)
 have w3:IntKind.i64.wrap (4+(W.length:Int)+(A.length:Int)+(N.length:Int))=4+(W.length:Int)+(A.length:Int)+(N.length:Int):=zb (by unfold I64;omega)
 rcases hE with rfl | ⟨p,rfl⟩
 all_goals
  simp only [lw,la,ln,w1,w2,w3,↓vcPre,↓z0,↓reduceIte,vcPost,vcStd,Nat.reduceEqDiff,reduceCtorEq,Nat.reduceAdd,Nat.reduceLeDiff,Int.reduceLT,Int.reduceLE,↓u_setN]
  refine ⟨fun c1=>long (by omega),fun c1 => ?_⟩
  refine (s23 (L:=[]) (v := .nils) Rd.nils (by simp) (W.length:Int)).Q ?_
  rintro r3 s3 ⟨hs3,h3⟩
  simp only [↓vcPre,↓z0,↓reduceIte,vcPost,vcStd,Nat.reduceEqDiff,reduceCtorEq,Nat.reduceAdd,Nat.reduceLeDiff,Int.reduceLT,Int.reduceLE,↓u_setN]
  refine Own.appM (bytes:=1) (τ:=s) hs3 h3 (hw.1 _ hs3) (by simp;omega) fun v4 s4 hs4 h4 => ?_
  have h4':Own 1 s ((u16 W.length++W).map cB) v4 s4:=by simpa [u16] using h4
  simp only [la,↓vcPre,↓z0,↓reduceIte,vcPost,vcStd,Nat.reduceEqDiff,reduceCtorEq,Nat.reduceAdd,Nat.reduceLeDiff,Int.reduceLT,Int.reduceLE,↓u_setN]
  refine (s23 (Rd.own h4') (by simp [u16];omega) (A.length:Int)).Q ?_
  rintro r5 s5 ⟨hs5,h5⟩
  simp only [↓vcPre,↓z0,↓reduceIte,vcPost,vcStd,Nat.reduceEqDiff,reduceCtorEq,Nat.reduceAdd,Nat.reduceLeDiff,Int.reduceLT,Int.reduceLE,↓u_setN]
  refine Own.appM (bytes:=1) (τ:=s4) hs5 h5 (ha.1 _ (Store.sub_trans hs4 hs5)) (by simp [u16];omega) fun v6 s6 hs6 h6 => ?_
  refine Own.appM (bytes:=1) (τ:=s4) hs6 h6 (hn.1 _ (Store.sub_trans hs4 hs6)) (by simp [u16];omega) fun v7 s7 hs7 h7 => ?_
  have h7':Own 1 s4 ((joinU W A N).map cB) v7 s7:=by simpa [u16,joinU] using h7
  exact fin (by omega) _ _ (Store.sub_trans hs (Store.sub_trans hs4 hs7)) (h7'.down (Store.sub_trans hs hs4))
end Go.Am
namespace Go.Am
open Go.Proofs Go.Sort
def aOf (u:Up):List Int:=if u.has then encA u.a else []
def encU9 (u:Up):List Int×Int:=if rightU u then if 4077<4+(encN u.w).length+(aOf u).length+(encN u.n).length then ([],3) else (joinU (encN u.w) (aOf u) (encN u.n),0) else ([],12)
theorem qj {u:Up} (h:rightU u=true):Rights u.w∧Rights u.n:=by
 unfold rightU at h
 rw [Bool.and_eq_true,Bool.and_eq_true,List.all_eq_true,List.all_eq_true] at h
 exact ⟨fun p hp=>h.1 p hp,fun p hp=>h.2.1 p hp⟩
set_option maxHeartbeats 1000000 in
theorem s18 (u:Up) (hu:u.a.ok) (lw:u.w.length≤100000) (ln:u.n.length≤100000) (he:u.has=true→encOk u.a∧(encA u.a).length≤10000000) (σ:Store):ACalls Tryz.prog 18 [.agg u.c] σ (fun r s=>Store.sub σ s∧∃ v,r = .tup [v,.int .i64 (encU9 u).2]∧Own 1 σ ((encU9 u).1.map cB) v s):=by
 refine ze Ts6.F18 (by simp [Ts6.F18,Fn.mkX]) ?_
 simp only [Ts6.F18,Fn.mkX,Ts6.b18]
 have f0:List.take 1 u.c=[.sl 2 (u.w.map pxC)]:=rfl
 have f1:List.take 1 (List.drop 1 u.c)=[.bool u.has]:=rfl
 have f2:List.take 9 (List.drop 2 u.c)=u.a.c:=rfl
 have f11:List.take 1 (List.drop 11 u.c)=[.sl 2 (u.n.map pxC)]:=rfl
 have t12:List.take 12 u.c=u.c:=rfl
 simp only [zw,↓vcPre,↓z0,↓reduceIte,vcPost,vcStd,Nat.reduceEqDiff,reduceCtorEq,Nat.reduceAdd,Nat.reduceLeDiff,Int.reduceLT,Int.reduceLE,↓u_setN]
 refine AllocQ.i0 fun p hp => ?_
 have hP:=Store.sub_set σ p (.box u.c) hp
 have P1:(σ.set p (.box u.c)) p=some (.box u.c):=Store.set_same _ _ _
 generalize σ.set p (.box u.c)=P at hP P1 ⊢
 simp only [P1,t12,zw,Nat.le_refl,↓vcPre,↓z0,↓reduceIte,vcPost,vcStd,Nat.reduceEqDiff,reduceCtorEq,Nat.reduceAdd,Nat.reduceLeDiff,Int.reduceLT,Int.reduceLE,↓u_setN]
 refine (c44 u hu (by omega) (by omega)).Q ?_
 simp only [↓vcPre,↓z0,↓reduceIte,vcPost,vcStd,Nat.reduceEqDiff,reduceCtorEq,Nat.reduceAdd,Nat.reduceLeDiff,Int.reduceLT,Int.reduceLE,↓u_setN]
 cases hr:rightU u with
 | false =>
   simp only [↓vcPre,↓z0,↓reduceIte,vcPost,vcStd,Nat.reduceEqDiff,reduceCtorEq,Nat.reduceAdd,Nat.reduceLeDiff,Int.reduceLT,Int.reduceLE,↓u_setN]
   have e:encU9 u=([],12):=by unfold encU9;rw [hr];rfl
   exact EndQ.to _ _ rfl (Store.sub_refl _) ⟨hP,.nils,by rw [e],by rw [e];exact .inl ⟨rfl,rfl⟩⟩
 | true =>
   obtain ⟨hrw,hrn⟩:=qj hr
   have e:encU9 u=if 4077<4+(encN u.w).length+(aOf u).length+(encN u.n).length then ([],3) else (joinU (encN u.w) (aOf u) (encN u.n),0):=by unfold encU9;rw [if_pos hr]
   have l1:=we u.w hrw
   have l2:=we u.n hrn
   simp only [P1,f0,zw,↓vcPre,↓z0,↓reduceIte,vcPost,vcStd,Nat.reduceEqDiff,reduceCtorEq,Nat.reduceAdd,Nat.reduceLeDiff,Int.reduceLT,Int.reduceLE,↓u_setN]
   refine (s22 u.w lw hrw P).Q ?_
   rintro r s1 ⟨hs1,wv,rfl,hw⟩
   have Q1:=hs1 _ _ P1
   simp only [Q1,f11,zw,↓vcPre,↓z0,↓reduceIte,vcPost,vcStd,Nat.reduceEqDiff,reduceCtorEq,Nat.reduceAdd,Nat.reduceLeDiff,Int.reduceLT,Int.reduceLE,↓u_setN]
   refine (s22 u.n ln hrn s1).Q ?_
   rintro r s2 ⟨hs2,nv,rfl,hn⟩
   have Q2:=hs2 _ _ Q1
   have rw1:Rd 1 s2 ((encN u.w).map cB) wv:=(Rd.own hw).mono hs2
   have rn1:Rd 1 s2 ((encN u.n).map cB) nv:=Rd.own hn
   have hσ2:Store.sub σ s2:=Store.sub_trans hP (Store.sub_trans hs1 hs2)
   simp only [Q2,f1,zw,↓vcPre,↓z0,↓reduceIte,vcPost,vcStd,Nat.reduceEqDiff,reduceCtorEq,Nat.reduceAdd,Nat.reduceLeDiff,Int.reduceLT,Int.reduceLE,↓u_setN]
   cases hh:u.has with
   | true =>
     obtain ⟨he1,he2⟩:=he hh
     simp only [Q2,f2,zw,↓vcPre,↓z0,↓reduceIte,vcPost,vcStd,Nat.reduceEqDiff,reduceCtorEq,Nat.reduceAdd,Nat.reduceLeDiff,Int.reduceLT,Int.reduceLE,↓u_setN]
     refine (s11 u.a he1 s2).Q ?_
     rintro y s3 ⟨hs3,hy⟩
     have ea:aOf u=encA u.a:=by unfold aOf;rw [hh];rfl
     rw [ea] at e
     simp only [↓vcPre,↓z0,↓reduceIte,vcPost,vcStd,Nat.reduceEqDiff,reduceCtorEq,Nat.reduceAdd,Nat.reduceLeDiff,Int.reduceLT,Int.reduceLE,↓u_setN]
     refine z4x (Store.sub_trans hσ2 hs3) (rw1.mono hs3) (Rd.own hy) (rn1.mono hs3) (by omega) he2 (by omega) _ (.inl rfl) (fun hL => ?_) (fun hL v s' hs' ho => ?_)
     ·rw [if_pos hL] at e
      exact EndQ.to _ _ rfl (Store.sub_refl _) ⟨Store.sub_trans hσ2 hs3,.nils,by rw [e],by rw [e];exact .inl ⟨rfl,rfl⟩⟩
     ·rw [if_neg hL] at e
      exact EndQ.to _ _ rfl (Store.sub_refl _) ⟨hs',v,by rw [e],by rw [e];exact ho⟩
   | false =>
     have ea:aOf u=[]:=by unfold aOf;rw [hh];rfl
     rw [ea] at e
     simp only [↓vcPre,↓z0,↓reduceIte,vcPost,vcStd,Nat.reduceEqDiff,reduceCtorEq,Nat.reduceAdd,Nat.reduceLeDiff,Int.reduceLT,Int.reduceLE,↓u_setN]
     refine z4x (A:=[]) hσ2 rw1 Rd.nils rn1 (by omega) (by simp) (by omega) _ (.inr ⟨p,rfl⟩) (fun hL => ?_) (fun hL v s' hs' ho => ?_)
     ·rw [if_pos hL] at e
      exact EndQ.to _ _ rfl (Store.sub_refl _) ⟨hσ2,.nils,by rw [e],by rw [e];exact .inl ⟨rfl,rfl⟩⟩
     ·rw [if_neg hL] at e
      exact EndQ.to _ _ rfl (Store.sub_refl _) ⟨hs',v,by rw [e],by rw [e];exact ho⟩
end Go.Am
