/- A part of the proof: a logic for calls over plain values, and the functions that the law reaches, each walked once. -/
import Derived.Test.YtcjiacchgddnpaaGreatPR12
set_option linter.unusedVariables false
set_option linter.unusedSimpArgs false
set_option linter.unusedSectionVars false
namespace Go.Am
open Go.Proofs Go.Sort
def num (l:List Int):Int:=l.foldl (fun a b=>a*256+b) 0
theorem z71 (l:List Int) (x:Int):num (l++[x])=num l*256+x:=by simp [num]
theorem z3e:∀ (l:List Int) (a:Int) (m:Nat),U8s l→0≤a→a<256 ^ m→0≤l.foldl (fun a b=>a*256+b) a∧l.foldl (fun a b=>a*256+b) a<256 ^ (m+l.length)
 | [],a,m,_,h1,h2=>⟨h1,h2⟩
 | x::l,a,m,h,h1,h2=>by
   have hx:=h x (by simp)
   have:=z3e l (a*256+x) (m+1) (fun y hy=>h y (by simp [hy])) (by omega) (by rw [Int.pow_succ];omega)
   simp only [List.foldl_cons,List.length_cons]
   rw [show m+(l.length+1)=m+1+l.length by omega]
   exact this
theorem z0r (l:List Int) (h:U8s l):0≤num l∧num l<256 ^ l.length:=by
 have:=z3e l 0 0 h (by omega) (by decide)
 rwa [Nat.zero_add] at this
theorem z5a {n k:Nat} (h:n≤k) (hk:k≤4):(256:Int) ^ n≤256 ^ k:=by
 have h1:n=0∨n=1∨n=2∨n=3∨n=4:=by omega
 have h2:k=0∨k=1∨k=2∨k=3∨k=4:=by omega
 rcases h1 with rfl | rfl | rfl | rfl | rfl <;> rcases h2 with rfl | rfl | rfl | rfl | rfl <;> first | decide | omega
theorem zaq {m d:Nat} (h:d<256):(m*256) ||| d=m*256+d:=by
 have:=Nat.shiftLeft_add_eq_or_of_lt (b:=d) (i:=8) (by omega) m
 rw [Nat.shiftLeft_eq] at this
 exact this.symm
theorem zes {n c:Int} (h0:0≤n) (h1:n<72057594037927936) (h2:0≤c) (h3:c<256):bitInt .or .u64 (shlInt .u64 n 8) c=n*256+c:=by
 obtain ⟨m,rfl⟩:=Int.eq_ofNat_of_zero_le h0
 obtain ⟨d,rfl⟩:=Int.eq_ofNat_of_zero_le h2
 have e:shlInt .u64 (m:Int) 8=((m*256:Nat):Int):=by
  simp [shlInt,z0f,IntKind.bits];omega
 rw [e]
 show IntKind.u64.wrap (((BitVec.ofInt 64 ((m*256:Nat):Int)) ||| (BitVec.ofInt 64 (d:Int))).toNat:Int)=_
 have e1:(((m*256:Nat):Int) % ((2 ^ 64:Nat):Int)).toNat=m*256:=by omega
 have e2:((d:Int) % ((2 ^ 64:Nat):Int)).toNat=d:=by omega
 rw [BitVec.toNat_or,BitVec.toNat_ofInt,BitVec.toNat_ofInt,e1,e2,zaq (by omega),z0f];omega
def rawM (n:Int) (R:List Int) (bad:Bool):List Int×List Int×Bool :=
 if bad=true∨(R.length:Int)<n then ([],R,true) else if n<1 then ([],R,false) else (R.take n.toNat,R.drop n.toNat,false)
def numM (k:Nat) (R:List Int) (bad:Bool):Int×List Int×Bool:=(num (rawM k R bad).1,(rawM k R bad).2)
theorem z0b {n:Int} {R:List Int} {bad:Bool} (h:U8s R):U8s (rawM n R bad).1∧U8s (rawM n R bad).2.1:=by
 unfold rawM
 split
 ·exact ⟨fun x hx=>by simp at hx,h⟩
 ·split
  ·exact ⟨fun x hx=>by simp at hx,h⟩
  ·exact ⟨h.take _,h.drop _⟩
theorem rawM_len {n:Int} {R:List Int} {bad:Bool}:(rawM n R bad).2.1.length≤R.length∧(rawM n R bad).1.length≤R.length:=by
 unfold rawM
 split
 ·exact ⟨Nat.le_refl _,by simp⟩
 ·split
  ·exact ⟨Nat.le_refl _,by simp⟩
  ·exact ⟨by simp,by simp;omega⟩
theorem z0s {k:Nat} {R:List Int} {bad:Bool}:(rawM k R bad).1.length≤k:=by
 unfold rawM
 split
 ·simp
 ·split
  ·simp
  ·simp;omega
def RP (τ:Store) (id:Nat) (R:List Int) (bad:Bool) (s:Store):Prop:=τ id=none∧Store.sub τ s∧s id=some (.box [.sl 1 (R.map cB),.bool bad])
theorem RP.mono {τ s s':Store} {id:Nat} {R:List Int} {bad:Bool} (h:RP τ id R bad s) (hs:Store.sub s s'):RP τ id R bad s':=⟨h.1,Store.sub_trans h.2.1 hs,hs _ _ h.2.2⟩
theorem RP.set {τ s:Store} {id:Nat} {R R':List Int} {bad bad':Bool} (h:RP τ id R bad s):RP τ id R' bad' (s.set id (.box [.sl 1 (R'.map cB),.bool bad'])):=⟨h.1,z6 h.2.1 h.1,Store.set_same _ _ _⟩
theorem s51 {σ:Store} {M:List Int} {v:AV} (hr:Rd 1 σ (M.map cB) v) (hM:M.length≤1000000000):ACalls Tryz.prog 51 [v] σ (fun r s=>∃ id,r = .ptr id 0∧RP σ id M false s):=by
 refine zf Tst.F51 (by simp [Tst.F51,Fn.mkX]) ?_
 simp only [Tst.F51,Fn.mkX,Tst.b51]
 simp only [↓vcPre,↓z0,↓reduceIte,vcPost,vcStd,Nat.reduceEqDiff,reduceCtorEq,Nat.reduceAdd,Nat.reduceLeDiff,Int.reduceLT,Int.reduceLE,↓u_setN]
 refine (s93 hr hM).Q ?_
 rintro r s ⟨rfl,rfl⟩
 simp only [↓vcPre,↓z0,↓reduceIte,vcPost,vcStd,Nat.reduceEqDiff,reduceCtorEq,Nat.reduceAdd,Nat.reduceLeDiff,Int.reduceLT,Int.reduceLE,↓u_setN]
 refine AllocQ.i0 fun id hid => ?_
 simp only [↓vcPre,↓z0,↓reduceIte,vcPost,vcStd,Nat.reduceEqDiff,reduceCtorEq,Nat.reduceAdd,Nat.reduceLeDiff,Int.reduceLT,Int.reduceLE,↓u_setN]
 exact EndQ.to _ _ rfl (Store.sub_refl _) ⟨id,rfl,hid,Store.sub_set _ _ _ hid,Store.set_same _ _ _⟩
theorem s52 {τ s:Store} {id:Nat} {R:List Int} {bad:Bool} (h:RP τ id R bad s) (hR:R.length≤1000000000) (n:Int):ACalls Tryz.prog 52 [.ptr id 0,.int .i64 n] s (fun r s'=>r = .sl 1 ((rawM n R bad).1.map cB)∧RP τ id (rawM n R bad).2.1 (rawM n R bad).2.2 s'):=by
 refine zf Tst.F52 (by simp [Tst.F52,Fn.mkX]) ?_
 simp only [Tst.F52,Fn.mkX,Tst.b52]
 have hs:=h.2.2
 cases bad with
 | true =>
   simp only [hs,↓vcPre,↓z0,↓reduceIte,vcPost,vcStd,Nat.reduceEqDiff,reduceCtorEq,Nat.reduceAdd,Nat.reduceLeDiff,Int.reduceLT,Int.reduceLE,↓u_setN]
   have e:rawM n R true=([],R,true):=by simp [rawM]
   rw [e]
   exact EndQ.nil1 1 _ rfl (Store.sub_refl _) ⟨rfl,h.set⟩
 | false =>
   by_cases g1:(R.length:Int)<n
   ·simp only [hs,g1,↓vcPre,↓z0,↓reduceIte,vcPost,vcStd,Nat.reduceEqDiff,reduceCtorEq,Nat.reduceAdd,Nat.reduceLeDiff,Int.reduceLT,Int.reduceLE,↓u_setN]
    have e:rawM n R false=([],R,true):=by simp [rawM,g1]
    rw [e]
    exact EndQ.nil1 1 _ rfl (Store.sub_refl _) ⟨rfl,h.set⟩
   ·simp only [hs,g1,↓vcPre,↓z0,↓reduceIte,vcPost,vcStd,Nat.reduceEqDiff,reduceCtorEq,Nat.reduceAdd,Nat.reduceLeDiff,Int.reduceLT,Int.reduceLE,↓u_setN]
    refine ⟨fun g2 => ?_,fun g2 => ?_⟩
    ·have e:rawM n R false=([],R,false):=by simp [rawM,g1,g2]
     rw [e]
     exact EndQ.nil1 1 _ rfl (Store.sub_refl _) ⟨rfl,h.set⟩
    ·have e:rawM n R false=(R.take n.toNat,R.drop n.toNat,false):=by simp [rawM,g1,g2]
     rw [e]
     simp only [Option.getD_some,↓vcPre,↓z0,↓reduceIte,vcPost,vcStd,Nat.reduceEqDiff,reduceCtorEq,Nat.reduceAdd,Nat.reduceLeDiff,Int.reduceLT,Int.reduceLE,↓u_setN]
     refine ⟨by omega,?_⟩
     have ht:List.drop (Int.toNat 0) (List.take n.toNat (R.map cB))=(R.take n.toNat).map cB:=by rw [List.map_take];rfl
     rw [ht]
     refine (s93 Rd.sl (by rw [List.length_take];omega)).Q ?_
     rintro r s' ⟨rfl,rfl⟩
     simp only [Option.getD_none,↓vcPre,↓z0,↓reduceIte,vcPost,vcStd,Nat.reduceEqDiff,reduceCtorEq,Nat.reduceAdd,Nat.reduceLeDiff,Int.reduceLT,Int.reduceLE,↓u_setN]
     refine ⟨by omega,?_⟩
     have hd:List.drop n.toNat (List.take R.length (R.map cB))=(R.drop n.toNat).map cB:=by
      rw [List.take_of_length_le (by simp),List.map_drop]
     rw [hd,Store.set_set]
     exact EndQ.to _ _ rfl (Store.sub_refl _) ⟨rfl,h.set⟩
theorem s54 {τ s:Store} {id:Nat} {R:List Int} {bad:Bool} (h:RP τ id R bad s):ACalls Tryz.prog 54 [.ptr id 0] s (fun r s'=>s'=s∧r = .int .i64 (if bad then 0 else (R.length:Int))):=by
 refine zf Tst.F54 (by simp [Tst.F54,Fn.mkX]) ?_
 simp only [Tst.F54,Fn.mkX,Tst.b54]
 have hs:=h.2.2
 cases bad <;> simp only [hs,↓vcPre,↓z0,↓reduceIte,vcPost,vcStd,Nat.reduceEqDiff,reduceCtorEq,Nat.reduceAdd,Nat.reduceLeDiff,Int.reduceLT,Int.reduceLE,↓u_setN] <;> exact EndQ.to _ _ rfl (Store.sub_refl _) ⟨rfl,rfl⟩
theorem s55 {τ s:Store} {id:Nat} {R:List Int} {bad:Bool} (h:RP τ id R bad s):ACalls Tryz.prog 55 [.ptr id 0] s (fun r s'=>s'=s∧r = .bool (!bad)):=by
 refine zf Tst.F55 (by simp [Tst.F55,Fn.mkX]) ?_
 simp only [Tst.F55,Fn.mkX,Tst.b55]
 have hs:=h.2.2
 simp only [hs,↓vcPre,↓z0,↓reduceIte,vcPost,vcStd,Nat.reduceEqDiff,reduceCtorEq,Nat.reduceAdd,Nat.reduceLeDiff,Int.reduceLT,Int.reduceLE,↓u_setN]
 exact EndQ.to _ _ rfl (Store.sub_refl _) ⟨rfl,rfl⟩
theorem s94 {τ s:Store} {id:Nat} {R:List Int} {bad:Bool} (h:RP τ id R bad s) (hR:R.length≤1000000000) (hu:U8s R) (k:Nat) (hk:k≤4):ACalls Tryz.prog 94 [.ptr id 0,.int .i64 (k:Int)] s (fun r s'=>r = .int .u64 (numM k R bad).1∧RP τ id (numM k R bad).2.1 (numM k R bad).2.2 s'):=by
 refine zf Tst.F94 (by simp [Tst.F94,Fn.mkX]) ?_
 simp only [Tst.F94,Fn.mkX,Tst.b94]
 simp only [↓vcPre,↓z0,↓reduceIte,vcPost,vcStd,Nat.reduceEqDiff,reduceCtorEq,Nat.reduceAdd,Nat.reduceLeDiff,Int.reduceLT,Int.reduceLE,↓u_setN]
 refine (s52 h hR _).Q ?_
 rintro r s' ⟨rfl,h'⟩
 have hx:=(z0b (n:=(k:Int)) (bad:=bad) hu).1
 have hl:=z0s (k:=k) (R:=R) (bad:=bad)
 unfold numM
 generalize rawM (k:Int) R bad=q at h' hx hl ⊢
 simp only [↓vcPre,↓z0,↓reduceIte,vcPost,vcStd,Nat.reduceEqDiff,reduceCtorEq,Nat.reduceAdd,Nat.reduceLeDiff,Int.reduceLT,Int.reduceLE,↓u_setN]
 refine LoopQ.inv (S:=Nat) (fun j=>[(5,.int .u64 (num (q.1.take j))),(10,.sl 1 (q.1.map cB)),(11,.int .i64 (q.1.length:Int)),(12,.int .i64 (j:Int))]) (fun _=>s') (fun j=>j≤q.1.length) (fun j=>q.1.length+1 - j) 0 rfl (Store.sub_refl _) (by omega) ?_
 intro j hj
 simp only [↓vcPre,↓z0,↓reduceIte,vcPost,vcStd,Nat.reduceEqDiff,reduceCtorEq,Nat.reduceAdd,Nat.reduceLeDiff,Int.reduceLT,Int.reduceLE,↓u_setN]
 refine ⟨fun c1 => ?_,fun c1 => ?_⟩
 ·have ej:IntKind.i64.wrap ((j:Int)+1)=((j+1:Nat):Int):=by rw [za (by unfold I64;omega)];omega
  refine ⟨c1,by simp [cB],?_⟩
  simp only [cB,↓vcPre,↓z0,↓reduceIte,vcPost,vcStd,Nat.reduceEqDiff,reduceCtorEq,Nat.reduceAdd,Nat.reduceLeDiff,Int.reduceLT,Int.reduceLE,↓u_setN]
  have hb:=z0r _ (hx.take j)
  have h8:=hx _ (List.getElem_mem c1)
  have hp:(256:Int) ^ (q.1.take j).length≤256 ^ 4:=z5a (by rw [List.length_take];omega) (by omega)
  have hw:IntKind.u64.wrap q.1[j]=q.1[j]:=by rw [z0f];omega
  rw [ej,hw,zes hb.1 (by omega) h8.1 h8.2]
  refine NextQ.to (j+1) ?_ (Store.sub_refl _) (by omega) (by omega)
  rw [List.take_add_one,List.getElem?_eq_getElem c1,Option.toList_some,z71]
 ·have e:q.1.take j=q.1:=List.take_of_length_le (by omega)
  rw [e]
  exact EndQ.to _ _ rfl (Store.sub_refl _) ⟨rfl,h'⟩
theorem vq {k:Nat} (hk:k≤4) {R:List Int} {bad:Bool} (hu:U8s R):0≤(numM k R bad).1∧(numM k R bad).1<4294967296:=by
 have hx:=(z0b (n:=(k:Int)) (bad:=bad) hu).1
 have hl:=z0s (k:=k) (R:=R) (bad:=bad)
 have hb:=z0r _ hx
 have hp:(256:Int) ^ (rawM k R bad).1.length≤256 ^ 4:=z5a (by omega) (by omega)
 unfold numM
 simp only
 omega
theorem s95 {τ s:Store} {id:Nat} {R:List Int} {bad:Bool} (h:RP τ id R bad s) (hR:R.length≤1000000000) (hu:U8s R):ACalls Tryz.prog 95 [.ptr id 0] s (fun r s'=>r = .int .i64 (numM 1 R bad).1∧RP τ id (numM 1 R bad).2.1 (numM 1 R bad).2.2 s'):=by
 refine zf Tst.F95 (by simp [Tst.F95,Fn.mkX]) ?_
 simp only [Tst.F95,Fn.mkX,Tst.b95]
 simp only [↓vcPre,↓z0,↓reduceIte,vcPost,vcStd,Nat.reduceEqDiff,reduceCtorEq,Nat.reduceAdd,Nat.reduceLeDiff,Int.reduceLT,Int.reduceLE,↓u_setN]
 refine (s94 h hR hu 1 (by omega)).Q ?_
 rintro r s' ⟨rfl,h'⟩
 have hb:=vq (k:=1) (by omega) (bad:=bad) hu
 simp only [↓vcPre,↓z0,↓reduceIte,vcPost,vcStd,Nat.reduceEqDiff,reduceCtorEq,Nat.reduceAdd,Nat.reduceLeDiff,Int.reduceLT,Int.reduceLE,↓u_setN]
 exact EndQ.to _ _ rfl (Store.sub_refl _) ⟨by rw [za (by unfold I64;omega)],h'⟩
theorem s53 {τ s:Store} {id:Nat} {R:List Int} {bad:Bool} (h:RP τ id R bad s) (hR:R.length≤1000000000) (hu:U8s R):ACalls Tryz.prog 53 [.ptr id 0] s (fun r s'=>r = .int .i64 (numM 2 R bad).1∧RP τ id (numM 2 R bad).2.1 (numM 2 R bad).2.2 s'):=by
 refine zf Tst.F53 (by simp [Tst.F53,Fn.mkX]) ?_
 simp only [Tst.F53,Fn.mkX,Tst.b53]
 simp only [↓vcPre,↓z0,↓reduceIte,vcPost,vcStd,Nat.reduceEqDiff,reduceCtorEq,Nat.reduceAdd,Nat.reduceLeDiff,Int.reduceLT,Int.reduceLE,↓u_setN]
 refine (s94 h hR hu 2 (by omega)).Q ?_
 rintro r s' ⟨rfl,h'⟩
 have hb:=vq (k:=2) (by omega) (bad:=bad) hu
 simp only [↓vcPre,↓z0,↓reduceIte,vcPost,vcStd,Nat.reduceEqDiff,reduceCtorEq,Nat.reduceAdd,Nat.reduceLeDiff,Int.reduceLT,Int.reduceLE,↓u_setN]
 exact EndQ.to _ _ rfl (Store.sub_refl _) ⟨by rw [za (by unfold I64;omega)],h'⟩
theorem z76 {τ s:Store} {id:Nat} {R:List Int} {bad:Bool} (h:RP τ id R bad s) (hR:R.length≤1000000000) (hu:U8s R):ACalls Tryz.prog 132 [.ptr id 0] s (fun r s'=>r = .int .u32 (numM 4 R bad).1∧RP τ id (numM 4 R bad).2.1 (numM 4 R bad).2.2 s'):=by
 refine zf Tst.F132 (by simp [Tst.F132,Fn.mkX]) ?_
 simp only [Tst.F132,Fn.mkX,Tst.b132]
 simp only [↓vcPre,↓z0,↓reduceIte,vcPost,vcStd,Nat.reduceEqDiff,reduceCtorEq,Nat.reduceAdd,Nat.reduceLeDiff,Int.reduceLT,Int.reduceLE,↓u_setN]
 refine (s94 h hR hu 4 (by omega)).Q ?_
 rintro r s' ⟨rfl,h'⟩
 have hb:=vq (k:=4) (by omega) (bad:=bad) hu
 simp only [↓vcPre,↓z0,↓reduceIte,vcPost,vcStd,Nat.reduceEqDiff,reduceCtorEq,Nat.reduceAdd,Nat.reduceLeDiff,Int.reduceLT,Int.reduceLE,↓u_setN]
 exact EndQ.to _ _ rfl (Store.sub_refl _) ⟨by rw [zf4,Int.emod_eq_of_lt hb.1 hb.2],h'⟩
def RF (τ:Store) (id:Nat) (v:AV) (B:List Int) (at_:Nat) (lack:Bool) (s:Store):Prop:=τ id=none∧Store.sub τ s∧s id=some (.box [v,.int .i64 (at_:Int),.bool lack])∧Rd 1 τ (B.map cB) v∧at_≤B.length
theorem RF.mono {τ s s':Store} {id:Nat} {v:AV} {B:List Int} {at_:Nat} {lack:Bool} (h:RF τ id v B at_ lack s) (hs:Store.sub s s'):RF τ id v B at_ lack s':=⟨h.1,Store.sub_trans h.2.1 hs,hs _ _ h.2.2.1,h.2.2.2⟩
theorem Rd.slice {esz:Nat} {τ:Store} {L:List (List AV)} {v:AV} (h:Rd esz τ L v) {lo hi:Nat} (h1:lo≤hi) (h2:hi≤L.length):∃ v',pSlice esz v (lo:Int) (some (hi:Int))=some v'∧Rd esz τ ((L.take hi).drop lo) v':=by
 rcases h.cases with ⟨rfl,h0⟩ | rfl | ⟨g,o,n,rfl⟩
 ·subst h0
  simp only [List.length_nil] at h2
  refine ⟨.nils,by simp [pSlice];omega,by simpa using Rd.nils⟩
 ·refine ⟨.sl esz ((L.take hi).drop lo),by simp [pSlice];omega,Rd.sl⟩
 ·have hl:=h.2
  simp only [pv,pLen,Option.some.injEq,AV.int.injEq,true_and] at hl
  refine ⟨.os g esz (o+lo) (hi - lo),by simp [pSlice];omega,fun t ht => ?_,by simp [pv,pLen];omega⟩
  have h3:=h.1 t ht
  unfold slc at h3 ⊢
  simp only at h3 ⊢
  split at h3
  ·rename_i e2 es hg
   split at h3
   ·rename_i e;obtain ⟨_,rfl,hle⟩:=e
    have h4:=Option.some.inj h3
    have e3:List.drop lo (List.take n (List.drop o es))=List.take (n - lo) (List.drop (o+lo) es):=by rw [List.drop_take,List.drop_drop]
    rw [if_pos ⟨trivial,rfl,by omega⟩,←h4,List.drop_take,e3,List.take_take,Nat.min_eq_left (by omega)]
   ·cases h3
  ·cases h3
theorem Rd.isTup {esz:Nat} {τ:Store} {L:List (List AV)} {v:AV} (h:Rd esz τ L v):v.isTup=false∧v.cells=[v]:=by
 rcases h.cases with ⟨rfl,_⟩ | rfl | ⟨g,o,n,rfl⟩ <;> exact ⟨rfl,rfl⟩
end Go.Am
namespace Go.Am
open Go.Proofs Go.Sort
def segV (x:Seg) (v:AV):List AV:=[.int .i64 x.kind,v]
def OwnsL (τ:Store):List Seg→List AV→Store→Prop
 | [],[],_=>True
 | x::p,v::vs,s=>(x.ls=[]∧v = .nils∧OwnsL τ p vs s)∨(∃ g,v = .os g 1 0 x.ls.length∧τ g=none∧s g=some (.arr 1 (x.ls.map cU))∧OwnsL τ p vs (s.del g))
 | _,_,_=>False
theorem OwnsL.len {τ:Store}:∀ {p:List Seg} {vs:List AV} {s:Store},OwnsL τ p vs s→vs.length=p.length
 | [],[],_,_=>rfl
 | _::_,_::_,_,h=>by
   rcases h with ⟨_,_,h⟩ | ⟨_,_,_,_,h⟩
   ·simp [OwnsL.len h]
   ·simp [OwnsL.len h]
 | [],_::_,_,h=>h.elim
 | _::_,[],_,h=>h.elim
theorem z25 {s s':Store} (h:Store.sub s s') (g:Nat):Store.sub (s.del g) (s'.del g):=fun j o hj=>by
 by_cases e:j=g
 ·subst e;simp at hj
 ·rw [Store.del_ne _ e] at hj ⊢;exact h j o hj
theorem OwnsL.mono {τ:Store}:∀ {p:List Seg} {vs:List AV} {s s':Store},OwnsL τ p vs s→Store.sub s s'→OwnsL τ p vs s'
 | [],[],_,_,_,_=>trivial
 | _::_,_::_,_,_,h,hs=>by
   rcases h with ⟨h1,h2,h⟩ | ⟨g,h1,h2,h3,h⟩
   ·exact .inl ⟨h1,h2,h.mono hs⟩
   ·exact .inr ⟨g,h1,h2,hs _ _ h3,h.mono (z25 hs g)⟩
 | [],_::_,_,_,h,_=>h.elim
 | _::_,[],_,_,h,_=>h.elim
theorem z1h (s:Store) (a b:Nat):(s.del a).del b=(s.del b).del a:=by
 funext j;simp only [Store.del];split <;> split <;> rfl
theorem OwnsL.del {τ:Store} {b:Nat}:∀ {p:List Seg} {vs:List AV} {s:Store},OwnsL τ p vs s→(∀ M,s b≠some (.arr 1 M))→OwnsL τ p vs (s.del b)
 | [],[],_,_,_=>trivial
 | _::_,_::_,s,h,hb=>by
   rcases h with ⟨h1,h2,h⟩ | ⟨g,h1,h2,h3,h⟩
   ·exact .inl ⟨h1,h2,h.del hb⟩
   ·have hgb:g≠b:=fun e=>hb _ (e ▸ h3)
    refine .inr ⟨g,h1,h2,by rw [Store.del_ne _ hgb];exact h3,?_⟩
    rw [z1h]
    exact h.del fun M e=>by
     by_cases e2:b=g
     ·exact hgb e2.symm
     ·rw [Store.del_ne _ e2] at e;exact hb M e
 | [],_::_,_,h,_=>h.elim
 | _::_,[],_,h,_=>h.elim
theorem OwnsL.snoc {τ:Store} {x:Seg}:∀ {p:List Seg} {vs:List AV} {xv:AV} {s:Store},((x.ls=[]∧xv = .nils∧OwnsL τ p vs s)∨∃ j,xv = .os j 1 0 x.ls.length∧τ j=none∧s j=some (.arr 1 (x.ls.map cU))∧OwnsL τ p vs (s.del j))→OwnsL τ (p++[x]) (vs++[xv]) s
 | [],[],xv,s,h=>h
 | y::p,v::vs,xv,s,h=>by
   rcases h with ⟨h1,h2,h⟩ | ⟨j,h1,h2,h3,h⟩
   ·rcases h with ⟨k1,k2,h⟩ | ⟨g,k1,k2,k3,h⟩
    ·exact .inl ⟨k1,k2,OwnsL.snoc (.inl ⟨h1,h2,h⟩)⟩
    ·exact .inr ⟨g,k1,k2,k3,OwnsL.snoc (.inl ⟨h1,h2,h⟩)⟩
   ·rcases h with ⟨k1,k2,h⟩ | ⟨g,k1,k2,k3,h⟩
    ·exact .inl ⟨k1,k2,OwnsL.snoc (.inr ⟨j,h1,h2,h3,h⟩)⟩
    ·have hgj:g≠j:=fun e=>by subst e;simp at k3
     rw [Store.del_ne _ hgj] at k3
     refine .inr ⟨g,k1,k2,k3,OwnsL.snoc (.inr ⟨j,h1,h2,by rw [Store.del_ne _ (fun e=>hgj e.symm)];exact h3,by rw [z1h];exact h⟩)⟩
 | [],_::_,_,_,h=>by rcases h with ⟨_,_,h⟩ | ⟨_,_,_,_,h⟩ <;> exact h.elim
 | _::_,[],_,_,h=>by rcases h with ⟨_,_,h⟩ | ⟨_,_,_,_,h⟩ <;> exact h.elim
theorem OwnsL.flat {τ:Store}:∀ {p:List Seg} {vs:List AV} {s:Store},OwnsL τ p vs s→∀ v ∈ vs,v.flat=true∧(v = .nils∨∃ g n,v = .os g 1 0 n)
 | [],[],_,_=>by simp
 | _::_,v::vs,_,h=>by
   rcases h with ⟨_,rfl,h⟩ | ⟨g,rfl,_,_,h⟩
   all_goals
    intro w hw
    rcases List.mem_cons.1 hw with rfl | hw
    ·exact ⟨rfl,by first | exact .inl rfl | exact .inr ⟨_,_,rfl⟩⟩
    ·exact OwnsL.flat h w hw
 | [],_::_,_,h=>h.elim
 | _::_,[],_,h=>h.elim
theorem OwnsL.lens {τ:Store}:∀ {p:List Seg} {vs:List AV} {s:Store},OwnsL τ p vs s→∀ i (h:i<p.length) (h':i<vs.length),pv .len [vs[i]]=some (.int .i64 (p[i].ls.length:Int))
 | [],[],_,_,i,h,_=>by simp at h
 | x::p,v::vs,s,hh,i,h,h'=>by
   cases i with
   | zero =>
     rcases hh with ⟨h1,rfl,_⟩ | ⟨g,rfl,_⟩
     ·simp [pv,pLen,h1]
     ·simp [pv,pLen]
   | succ i =>
     simp only [List.getElem_cons_succ]
     rcases hh with ⟨_,_,hh⟩ | ⟨_,_,_,_,hh⟩ <;> exact OwnsL.lens hh i (by simpa using h) (by simpa using h')
 | [],_::_,_,h,_,_,_=>h.elim
 | _::_,[],_,h,_,_,_=>h.elim
theorem WeakL.imp {xs bs:List AV} {σ:Store} {Q:List AV→Store→Prop} (h:Rels Imp xs bs) (hq:WeakL bs σ Q):WeakL xs σ Q:=fun G w vs hs hr=>by
 refine hq G w vs hs ?_
 clear hq hs
 induction h generalizing vs with
 | nil=>exact hr
 | cons h1 _ ih=>cases hr with | cons r1 r2=>exact .cons (h1.2 _ _ _ r1) (ih _ r2)
theorem ImpL.refl' (l:List (List AV)) (h:∀ e ∈ l,∀ c ∈ e,c.flat=true):Rels ImpL l l:=by
 induction l with
 | nil=>exact .nil
 | cons x l ih=>exact .cons (ImpL.refl x (h x (by simp))) (ih fun e he=>h e (by simp [he]))
theorem z4r {τ:Store} {Q:List AV→Store→Prop}:∀ (p:List Seg) (vs:List AV) (pre:List (List AV)) (s:Store),(∀ e ∈ pre,∀ c ∈ e,c.flat=true)→OwnsL τ p vs s→Store.sub τ s→(∀ s',Store.sub τ s'→WeakL [.sl 2 (pre++p.map Seg.c)] s' Q)→WeakL [.sl 2 (pre++List.zipWith segV p vs)] s Q
 | [],[],pre,s,_,_,hs,h=>h s hs
 | x::p,v::vs,pre,s,hpre,ho,hs,h=>by
   have hxc:∀ c ∈ x.c,c.flat=true:=fun c hc=>by
    simp only [Seg.c,List.mem_cons,List.not_mem_nil,or_false] at hc
    rcases hc with rfl | rfl <;> rfl
   have hpre':∀ e ∈ pre++[x.c],∀ c ∈ e,c.flat=true:=fun e he=>by
    rcases List.mem_append.1 he with he | he
    ·exact hpre e he
    ·simp only [List.mem_singleton] at he;subst he;exact hxc
   have h':∀ s',Store.sub τ s'→WeakL [.sl 2 ((pre++[x.c])++p.map Seg.c)] s' Q:=fun s' hs'=>by
    have:=h s' hs'
    simpa using this
   rcases ho with ⟨h0,rfl,ho⟩ | ⟨g,rfl,hτg,hg,ho⟩
   ·have hfl:=ho.flat
    have hrow:∀ e ∈ List.zipWith segV p vs,∀ c ∈ e,c.flat=true:=fun e he c hc=>by
     obtain ⟨i,hi,rfl⟩:=List.getElem_of_mem he
     simp only [List.getElem_zipWith,segV,List.mem_cons,List.not_mem_nil,or_false] at hc
     rcases hc with rfl | rfl
     ·rfl
     ·exact (hfl _ (List.getElem_mem _)).1
    refine WeakL.imp (bs:=[.sl 2 ((pre++[x.c])++List.zipWith segV p vs)]) (.cons (Imp.sl ?_) .nil) (z4r p vs (pre++[x.c]) s hpre' ho hs h')
    rw [List.append_assoc]
    refine Rels.append (ImpL.refl' pre hpre) ?_
    simp only [List.zipWith_cons_cons,List.cons_append,List.nil_append]
    refine .cons ?_ (ImpL.refl' _ hrow)
    refine .cons (.refl rfl) (.cons ?_ .nil)
    rw [h0];exact Imp.nils
   ·refine WeakL.freezeIn 0 pre.length 1 (id:=g) (esz:=1) (off:=0) (len:=x.ls.length) (cs:=x.ls.map cU) (es:=pre++List.zipWith segV (x::p) (.os g 1 0 x.ls.length::vs)) rfl (by simp) (by simp [segV]) (by simp [segV]) hg (by simp) ?_
    have e:(pre++List.zipWith segV (x::p) (.os g 1 0 x.ls.length::vs)).set pre.length ((pre++List.zipWith segV (x::p) (.os g 1 0 x.ls.length::vs))[pre.length]'(by simp) |>.set 1 (.sl 1 (((x.ls.map cU).drop 0).take x.ls.length)))=(pre++[x.c])++List.zipWith segV p vs:=by
     have ht:List.take x.ls.length (x.ls.map cU)=x.ls.map cU:=List.take_of_length_le (by simp)
     simp [segV,Seg.c,ht]
    rw [e]
    exact z4r p vs (pre++[x.c]) (s.del g) hpre' ho (sub_del hs hτg) h'
 | [],_::_,_,_,_,h,_,_=>h.elim
 | _::_,[],_,_,_,h,_,_=>h.elim
def OwnQ (τ:Store) (p:List Seg) (v:AV) (s:Store):Prop:=∃ vs,OwnsL τ p vs s∧Own 2 τ (List.zipWith segV p vs) v s
theorem OwnQ.nil {τ s:Store}:OwnQ τ [] .nils s:=⟨[],trivial,.inl ⟨rfl,rfl⟩⟩
theorem OwnQ.mono {τ s s':Store} {p:List Seg} {v:AV} (h:OwnQ τ p v s) (hs:Store.sub s s'):OwnQ τ p v s':=by
 obtain ⟨vs,h1,h2⟩:=h
 exact ⟨vs,h1.mono hs,h2.mono hs⟩
theorem OwnQ.app {bytes:Nat} {τ s0 s:Store} {p:List Seg} {x:Seg} {v xv wv:AV} {K:AV→Store→Prop} (hτ:Store.sub τ s0) (h0:Store.sub s0 s) (ho:OwnQ τ p v s0) (hx:(x.ls=[]∧xv = .nils)∨∃ j,xv = .os j 1 0 x.ls.length∧s0 j=none∧s j=some (.arr 1 (x.ls.map cU)))
 (hw:slc s 2 wv=some [segV x xv]) (hsz:(p.length+1)*bytes≤140737488355328) (h:∀ v' s',Store.sub τ s'→OwnQ τ (p++[x]) v' s'→(∀ j o,s j=some o→(∀ M,o ≠ .arr 2 M)→s' j=some o)→K v' s'):appwp 2 bytes v wv s K:=by
 obtain ⟨vs,h1,h2⟩:=ho
 have hl:=h1.len
 have hz:(List.zipWith segV p vs).length=p.length:=by simp [hl]
 have hsn:∀ t,Store.sub s0 t→(∀ j o,s0 j=none→s j=some o→t j=some o)→OwnsL τ (p++[x]) (vs++[xv]) t:=fun t ht hn=>by
  refine OwnsL.snoc ?_
  rcases hx with ⟨a,b⟩ | ⟨j,a,b,c⟩
  ·exact .inl ⟨a,b,h1.mono ht⟩
  ·refine .inr ⟨j,a,zi hτ b,hn _ _ b c,h1.mono fun k o hk => ?_⟩
   rw [Store.del_ne _ (fun e=>by subst e;rw [b] at hk;cases hk)]
   exact ht _ _ hk
 rcases h2 with ⟨hL,rfl⟩ | ⟨g,rfl,hgg,hh⟩
 ·refine Own.app (τ:=s) (L:=List.zipWith segV p vs) (Store.sub_refl _) (.inl ⟨hL,rfl⟩) hw (by rw [hz];exact hsz) fun v' s' hs ho' => ?_
  have hsub:=Store.sub_trans hτ h0
  refine h v' s' (Store.sub_trans hsub hs) ⟨vs++[xv],hsn s' (Store.sub_trans h0 hs) fun j o _ h=>hs _ _ h,?_⟩ ?_
  rw [List.zipWith_append (by omega)]
  exact ho'.weak hsub
  exact fun j o hj _=>hs _ _ hj
 ·have hs0d:Store.sub s0 s:=h0
  have hsd:Store.sub (s.del g) s:=yf _ _
  refine Own.app (τ:=s.del g) (L:=List.zipWith segV p vs) hsd (.inr ⟨g,rfl,by simp,h0 _ _ hh⟩) hw (by rw [hz];exact hsz) fun v' s' hs ho' => ?_
  have hτd:Store.sub τ (s.del g):=fun y o hy=>by
   rw [Store.del_ne _ (fun e=>by subst e;rw [hgg] at hy;cases hy)]
   exact h0 _ _ (hτ _ _ hy)
  have h1d:OwnsL τ p vs (s0.del g):=h1.del fun M e=>by rw [hh] at e;cases e
  refine h v' s' (Store.sub_trans hτd hs) ⟨vs++[xv],?_,?_⟩ fun j o hj hn=>hs _ _ (by rw [Store.del_ne _ (fun e=>by rw [e,h0 _ _ hh] at hj;cases hj;exact hn _ rfl)];exact hj)
  ·refine OwnsL.snoc ?_
   rcases hx with ⟨a,b⟩ | ⟨j,a,b,c⟩
   ·exact .inl ⟨a,b,h1d.mono (Store.sub_trans (z25 h0 g) hs)⟩
   ·have hjg:j≠g:=fun e=>by rw [e,hh] at b;cases b
    refine .inr ⟨j,a,zi hτ b,hs _ _ (by rw [Store.del_ne _ hjg];exact c),h1d.mono fun k o hk => ?_⟩
    have hkg:k≠g:=fun e=>by subst e;simp at hk
    rw [Store.del_ne _ hkg] at hk
    rw [Store.del_ne _ (fun e=>by subst e;rw [b] at hk;cases hk)]
    exact hs _ _ (by rw [Store.del_ne _ hkg];exact h0 _ _ hk)
  ·rw [List.zipWith_append (by omega)]
   exact ho'.weak hτd
theorem OwnQ.weak {τ s:Store} {p:List Seg} {v:AV} {Q:List AV→Store→Prop} (h:OwnQ τ p v s) (hs:Store.sub τ s) (hq:∀ s',Store.sub τ s'→WeakL [.sl 2 (p.map Seg.c)] s' Q):WeakL [v] s Q:=by
 obtain ⟨vs,h1,h2⟩:=h
 have hl:=h1.len
 rcases h2 with ⟨h0,rfl⟩ | ⟨g,rfl,hgg,hh⟩
 ·have:p=[]:=by
   have:=congrArg List.length h0
   simp [hl] at this
   exact this
  subst this
  exact WeakL.nil 0 2 rfl (hq s hs)
 ·refine WeakL.freeze 0 rfl hh (by omega) ?_
  simp only [List.set_cons_zero,List.drop_zero,List.take_length]
  have:=z4r (τ:=τ) (Q:=Q) p vs [] (s.del g) (by simp) (h1.del fun M e=>by rw [hh] at e;cases e) (sub_del hs hgg) (by simpa using hq)
  simpa using this
end Go.Am
namespace Go.Am
open Go.Proofs Go.Sort
theorem zai (k:Int) (v:AV) (n:Nat) (hv:pv .len [v]=some (.int .i64 (n:Int))):Pur Tryz.prog 130 [.agg [.int .i64 k,v]] (.bool (decide ((k=1∨k=2)∧1≤n∧n≤255))):=by
 refine zl Tst.F130 (by simp [Tst.F130,Fn.mkX]) fun σ => ?_
 simp only [Tst.F130,Fn.mkX,Tst.b130]
 simp only [↓vcPre,↓z0,↓reduceIte,vcPost,vcStd,Nat.reduceEqDiff,reduceCtorEq,Nat.reduceAdd,Nat.reduceLeDiff,Int.reduceLT,Int.reduceLE,↓u_setN]
 refine AllocQ.i0 fun i hi => ?_
 simp only [hv,↓vcPre,↓z0,↓reduceIte,vcPost,vcStd,Nat.reduceEqDiff,reduceCtorEq,Nat.reduceAdd,Nat.reduceLeDiff,Int.reduceLT,Int.reduceLE,↓u_setN]
 have hsb:=Store.sub_set σ i (.box [.int .i64 k,v]) hi
 (repeat' first
   | (refine ⟨fun _ => ?_,fun _ => ?_⟩)
   | (refine ⟨?_,hsb⟩)
   | (refine decide_eq_decide.2 ?_;omega)
   | (symm;rw [decide_eq_false_iff_not];omega)
   | (symm;rw [decide_eq_true_iff];omega))
theorem z0i {p:List Seg} {vs:List AV} {k:Nat} (h:k<(List.zipWith segV p vs).length):(List.zipWith segV p vs)[k]=[.int .i64 (p[k]'(by simp at h;omega)).kind,vs[k]'(by simp at h;omega)]:=by
 simp [segV]
theorem z21 (x:Seg):segRight x↔((x.kind=1∨x.kind=2)∧1≤x.ls.length∧x.ls.length≤255):=Iff.rfl
theorem z5f {τ σ:Store} {p:List Seg} {v:AV} (h:OwnQ τ p v σ) (hp:p.length≤1000000):ACalls Tryz.prog 99 [v] σ (fun r s=>s=σ∧r = .bool (decide (pathRight p))):=by
 refine zf Tst.F99 (by simp [Tst.F99,Fn.mkX]) ?_
 simp only [Tst.F99,Fn.mkX,Tst.b99]
 obtain ⟨vs,h1,h2⟩:=h
 have hl:=h1.len
 have hz:(List.zipWith segV p vs).length=p.length:=by simp [hl]
 have hlens:=h1.lens
 rcases h2 with ⟨h0,rfl⟩ | ⟨g,rfl,hgg,hh⟩
 ·have hp0:p=[]:=by rw [h0] at hz;exact List.length_eq_zero_iff.1 hz.symm
  subst hp0
  simp only [↓vcPre,↓z0,↓reduceIte,vcPost,vcStd,Nat.reduceEqDiff,reduceCtorEq,Nat.reduceAdd,Nat.reduceLeDiff,Int.reduceLT,Int.reduceLE,↓u_setN]
  refine LoopQ.inv (S:=Unit) (fun _=>[(0,.nils),(5,.nils),(6,.int .i64 0),(7,.int .i64 0)]) (fun _=>σ) (fun _=>True) (fun _=>0) () rfl (Store.sub_refl _) trivial ?_
  intro _ _
  simp only [↓vcPre,↓z0,↓reduceIte,vcPost,vcStd,Nat.reduceEqDiff,reduceCtorEq,Nat.reduceAdd,Nat.reduceLeDiff,Int.reduceLT,Int.reduceLE,↓u_setN]
  exact EndQ.to _ _ rfl (Store.sub_refl _) ⟨rfl,by rw [decide_eq_true (show pathRight [] from ⟨by simp,by simp⟩)]⟩
 ·rw [hz]
  simp only [↓vcPre,↓z0,↓reduceIte,vcPost,vcStd,Nat.reduceEqDiff,reduceCtorEq,Nat.reduceAdd,Nat.reduceLeDiff,Int.reduceLT,Int.reduceLE,↓u_setN]
  refine LoopQ.inv (S:=Nat) (fun k=>[(0,.os g 2 0 p.length),(5,.os g 2 0 p.length),(6,.int .i64 (p.length:Int)),(7,.int .i64 (k:Int))]) (fun _=>σ) (fun k=>k≤p.length∧∀ s ∈ p.take k,segRight s) (fun k=>p.length+1 - k) 0 rfl (Store.sub_refl _) ⟨by omega,by simp⟩ ?_
  rintro k ⟨hk,hr⟩
  simp only [↓vcPre,↓z0,↓reduceIte,vcPost,vcStd,Nat.reduceEqDiff,reduceCtorEq,Nat.reduceAdd,Nat.reduceLeDiff,Int.reduceLT,Int.reduceLE,↓u_setN]
  refine ⟨fun c1 => ?_,fun c1 => ?_⟩
  ·have ek:IntKind.i64.wrap ((k:Int)+1)=((k+1:Nat):Int):=by rw [za (by unfold I64;omega)];omega
   have hkz:k<(List.zipWith segV p vs).length:=by omega
   have hkv:k<vs.length:=by omega
   have hget:(List.zipWith segV p vs)[k]? = some [.int .i64 p[k].kind,vs[k]]:=by rw [List.getElem?_eq_getElem hkz,z0i hkz]
   simp only [hh,Nat.zero_add,↓vcPre,↓z0,↓reduceIte,vcPost,vcStd,Nat.reduceEqDiff,reduceCtorEq,Nat.reduceAdd,Nat.reduceLeDiff,Int.reduceLT,Int.reduceLE,↓u_setN]
   refine ⟨c1,hkz,by rw [z0i hkz];exact Nat.le_refl _,?_⟩
   refine AllocQ.i0 fun i hi => ?_
   have hvt:vs[k].isTup=false∧vs[k].cells=[vs[k]]:=by
    rcases (h1.flat _ (List.getElem_mem hkv)).2 with h | ⟨a,b,h⟩ <;> rw [h] <;> exact ⟨rfl,rfl⟩
   simp only [Nat.zero_add,z0i hkz,Store.set_set,↓vcPre,↓z0,↓reduceIte,vcPost,vcStd,Nat.reduceEqDiff,reduceCtorEq,Nat.reduceAdd,Nat.reduceLeDiff,Int.reduceLT,Int.reduceLE,↓u_setN]
   refine (zai p[k].kind vs[k] p[k].ls.length (hlens k c1 hkv)).Q ?_
   have hsb:=Store.sub_set σ i (.box [.int .i64 p[k].kind,vs[k]]) hi
   by_cases g3:segRight p[k]
   ·rw [decide_eq_true ((z21 _).1 g3)]
    simp only [↓vcPre,↓z0,↓reduceIte,vcPost,vcStd,Nat.reduceEqDiff,reduceCtorEq,Nat.reduceAdd,Nat.reduceLeDiff,Int.reduceLT,Int.reduceLE,↓u_setN]
    rw [ek]
    refine NextQ.to (k+1) rfl hsb (by omega) ⟨by omega,fun s hs => ?_⟩
    rw [List.take_add_one,List.getElem?_eq_getElem c1] at hs
    rcases List.mem_append.1 hs with h | h
    ·exact hr s h
    ·simp at h;subst h;exact g3
   ·rw [decide_eq_false (fun h=>g3 ((z21 _).2 h))]
    simp only [↓vcPre,↓z0,↓reduceIte,vcPost,vcStd,Nat.reduceEqDiff,reduceCtorEq,Nat.reduceAdd,Nat.reduceLeDiff,Int.reduceLT,Int.reduceLE,↓u_setN]
    refine EndQ.to _ _ rfl hsb ⟨rfl,?_⟩
    rw [decide_eq_false (fun h:pathRight p=>g3 (h.1 _ (List.getElem_mem c1)))]
  ·have e:p.take k=p:=List.take_of_length_le (by omega)
   rw [e] at hr
   refine EndQ.to _ _ rfl (Store.sub_refl _) ⟨rfl,?_⟩
   refine congrArg AV.bool (decide_eq_decide.2 ⟨fun h=>⟨hr,by omega⟩,fun h => ?_⟩)
   have:=h.2;omega
end Go.Am
namespace Go.Am.Tsk
open Go.Proofs Go.Am.B
def t107_34:BC := .ops [m 34 5,⟨some 35,none,.load (.ld 2 true),[.t 6]⟩,⟨some 36,none,.alloc (.mksl 2 1),[.t 35]⟩,⟨some 37,none,.loud (.app 2 32),[.t 34,.t 36]⟩,m 5 37] [4,5]
def b107:BC:=z [k 2 .nils,k 3 (.bool false)] [0] (z [m 8 0,g 9 51 [.t 8],m 4 9] [4] (z [k 5 .nils] [4,5] (.seq (.block 0 (.loop [4,5] (.seq (z [m 10 4,g 11 54 [.t 10],c 12 .gtr 11 0] [4,5,12] (.cond (.t 12) .skip (.exit 0))) (.block 1 (z [m 13 4,g 14 95 [.t 13],p 15 (.build [(.int .i64 0),.nils] [(0,1)]) [.t 14],⟨some 6,none,.alloc (.alloc [(.int .i64 0),.nils]),[]⟩,s 2 6 15] [4,5,6] (z [m 16 4,g 17 95 [.t 16],m 7 17] [4,5,6,7] (.seq (z [m 18 7,c 19 .mul 18 4,m 20 4,g 21 54 [.t 20],b 22 .gtr 19 21] [4,5,6,7,22] (.cond (.t 22) (z [k 2 .nils,k 3 (.bool false)] [2,3] .ret) .skip)) (.seq (z [m 23 7,j 24 0] [4,5,6,23,24] (.block 2 (.loop [4,5,6,23,24] (z [b 25 .lss 24 23] [4,5,6,23,24,25] (.seq (.cond (.t 25) .skip (.exit 2)) (.seq (.block 3 (z [f 26 1 6] [4,5,6,23,24,26] (z [m 28 4] [4,5,6,23,24,26,28] (.both (z [l 27 1 26] [4,5,6,23,24,27,28] (z [g 29 132 [.t 28]] [4,5,6,23,24,27,29] (z [⟨some 30,none,.alloc (.mksl 1 1),[.t 29]⟩] [4,5,6,23,24,27,30] (z [⟨some 31,none,.loud (.app 1 4),[.t 27,.t 30]⟩] [4,5,6,23,24,31] (z [f 32 1 6] [4,5,6,23,24,31,32] (z [s 1 32 31] [4,5,6,23,24] (.ops [] [4,5,6,23,24]))))))) (.both (z [g 29 132 [.t 28]] [4,5,6,23,24,26,29] (z [l 27 1 26] [4,5,6,23,24,27,29] (z [⟨some 30,none,.alloc (.mksl 1 1),[.t 29]⟩] [4,5,6,23,24,27,30] (z [⟨some 31,none,.loud (.app 1 4),[.t 27,.t 30]⟩] [4,5,6,23,24,31] (z [f 32 1 6] [4,5,6,23,24,31,32] (z [s 1 32 31] [4,5,6,23,24] (.ops [] [4,5,6,23,24]))))))) (.top)))))) (.ops [c 33 .add 24 1,m 24 33] [4,5,6,23,24]))))))) t107_34)))))))) (.seq (z [m 38 4,g 39 55 [.t 38],u 40 .not 39,m 41 40,⟨some 42,some (41,false),.pure (.mov),[.t 5]⟩,⟨some 43,some (41,false),.loud (.call 99),[.t 42]⟩,⟨some 44,some (41,false),.pure (.not),[.t 43]⟩,⟨some 45,none,.pick,[.t 41,.c (.bool true),.t 44]⟩] [5,45] (.cond (.t 45) (z [k 2 .nils,k 3 (.bool false)] [2,3] .ret) .skip)) (z [m 46 5,m 2 46,k 3 (.bool true)] [2,3] .ret)))))
def F107:Fn Tryz.prog 107:=Fn.mkX true b107 [.t 2,.t 3] 47 Tryz.f107 _ Tryz.func107 (by decide) rfl Tryz.ntmps107 (by kernel_rfl) (by kernel_rfl)
end Go.Am.Tsk
namespace Go.Am
open Go.Proofs Go.Sort
theorem z44 {R:List Int} (h:4≤R.length):∃ x,numM 4 R false=(x,R.drop 4,false)∧words 1 R=[x]∧∀ n,words (n+1) R=x::words n (R.drop 4):=by
 match R,h with
 | a::b::c::d::r,_ =>
   refine ⟨n4 a b c d,?_,rfl,fun n=>rfl⟩
   have e:rawM ((4:Nat):Int) (a::b::c::d::r) false=([a,b,c,d],r,false):=by
    unfold rawM
    rw [if_neg (by simp;omega),if_neg (by omega)];rfl
   unfold numM
   rw [e]
   simp [num,n4]
theorem zap {R:List Int} (h:¬ 4≤R.length):numM 4 R false=(0,R,true):=by
 have:(R.length:Int)<4:=by omega
 simp [numM,rawM,num,this]
theorem wc:∀ (n:Nat) (l:List Int),4*n+4≤l.length→words (n+1) l=words n l++words 1 (l.drop (4*n))
 | 0,l,h=>by
   obtain ⟨x,_,h2,_⟩:=z44 (R:=l) (by omega)
   simp only [words,Nat.mul_zero,List.drop_zero]
   cases l <;> simp [words]
 | n+1,a::b::c::d::r,h=>by
   have:=wc n r (by simp at h;omega)
   have e:(a::b::c::d::r).drop (4*(n+1))=r.drop (4*n):=by
    rw [show 4*(n+1)=4*n+4 by omega];simp
   rw [e]
   show n4 a b c d::words (n+1) r=n4 a b c d::words n r++_
   rw [this];rfl
 | n+1,[],h=>by simp at h
 | n+1,[_],h=>by simp at h
 | n+1,[_,_],h=>by simp at h
 | n+1,[_,_,_],h=>by simp at h
theorem RP.base {τ s:Store} {id:Nat} {R:List Int} {bad:Bool} (h:RP τ id R bad s):RP (s.del id) id R bad s∧Store.sub τ (s.del id):=⟨⟨by simp,yf _ _,h.2.2⟩,sub_del h.2.1 h.1⟩
theorem RP.weak {τ τ' s:Store} {id:Nat} {R:List Int} {bad:Bool} (h:RP τ' id R bad s) (hs:Store.sub τ τ'):RP τ id R bad s:=⟨zi hs h.1,Store.sub_trans hs h.2.1,h.2.2⟩
theorem Own.delBox {esz id:Nat} {τ s:Store} {L:List (List AV)} {v:AV} {c:List AV} (h:Own esz τ L v s) (hid:s id=some (.box c)):Own esz τ L v (s.del id):=by
 rcases h with h | ⟨g,h1,h2,h3⟩
 ·exact .inl h
 ·exact .inr ⟨g,h1,h2,by rw [Store.del_ne _ (fun e=>by rw [e,hid] at h3;cases h3)];exact h3⟩
theorem Own.appK {esz bytes:Nat} {τ s:Store} {L ys:List (List AV)} {v wv:AV} {K:AV→Store→Prop} (hsub:Store.sub τ s) (ho:Own esz τ L v s) (hw:slc s esz wv=some ys) (hsz:(L.length+ys.length)*bytes≤140737488355328)
 (h:∀ v' s',Store.sub τ s'→Own esz τ (L++ys) v' s'→(∀ j o,s j=some o→(∀ M,o ≠ .arr esz M)→s' j=some o)→K v' s'):appwp esz bytes v wv s K:=by
 obtain ⟨τ0,q1,q2,q3,q4⟩:∃ τ0,Store.sub τ τ0∧Store.sub τ0 s∧(∀ j o,s j=some o→(∀ M,o ≠ .arr esz M)→τ0 j=some o)∧Own esz τ0 L v s:=by
  rcases ho with ⟨hk,hv⟩ | ⟨g,hv,hg,hs⟩
  ·exact ⟨s,hsub,Store.sub_refl _,fun _ _ h _=>h,.inl ⟨hk,hv⟩⟩
  ·exact ⟨s.del g,sub_del hsub hg,yf _ _,fun j o hj hn=>by rw [Store.del_ne _ (fun e=>by rw [e,hs] at hj;cases hj;exact hn _ rfl)];exact hj,.inr ⟨g,hv,by simp,hs⟩⟩
 refine Own.appM (τ:=τ0) q2 q4 hw hsz fun v' s' hs' ho' => ?_
 exact h v' s' (Store.sub_trans q1 hs') (ho'.weak q1) fun j o hj hn=>hs' _ _ (q3 j o hj hn)
theorem zeu {M:List Int} (hM:M.length≤1000000000) (hu:U8s M) (σ:Store):ACalls Tryz.prog 106 [.sl 1 (M.map cB)] σ (fun r s=>s=σ∧∃ l:List Int,r = .sl 1 (l.map cU)∧(M.length % 4=0→l=words (M.length / 4) M)):=by
 refine zf Tst.F106 (by simp [Tst.F106,Fn.mkX]) ?_
 simp only [Tst.F106,Fn.mkX,Tst.b106]
 simp only [↓vcPre,↓z0,↓reduceIte,vcPost,vcStd,Nat.reduceEqDiff,reduceCtorEq,Nat.reduceAdd,Nat.reduceLeDiff,Int.reduceLT,Int.reduceLE,↓u_setN]
 refine (s51 Rd.sl hM).Q ?_
 rintro r s ⟨id,rfl,h⟩
 simp only [↓vcPre,↓z0,↓reduceIte,vcPost,vcStd,Nat.reduceEqDiff,reduceCtorEq,Nat.reduceAdd,Nat.reduceLeDiff,Int.reduceLT,Int.reduceLE,↓u_setN]
 refine LoopQ.inv (S:=List Int×Bool×List Int×AV×Store) (fun q=>[(3,.ptr id 0),(4,q.2.2.2.1)]) (fun q=>q.2.2.2.2)
  (fun q=>RP σ id q.1 q.2.1 q.2.2.2.2∧Own 1 σ (q.2.2.1.map cU) q.2.2.2.1 q.2.2.2.2∧q.2.2.1.length≤M.length+1∧U8s q.1∧q.1.length≤M.length∧((q.2.1=false∧∃ j:Nat,4*j≤M.length∧q.1=M.drop (4*j)∧q.2.2.1=words j M)∨(q.2.1=true∧M.length % 4≠0)))
  (fun q=>if q.2.1 then 0 else q.1.length+1) (M,false,[],.nils,s) rfl (Store.sub_refl _) ⟨h,.nil,by simp,hu,Nat.le_refl _,.inl ⟨rfl,0,by omega,by simp,by cases M <;> rfl⟩⟩ ?_
 rintro ⟨R,bad,l,v,s⟩ ⟨h,ho,hl,hR,hRM,hj⟩
 simp only at h ho hl hR hRM hj
 simp only [↓vcPre,↓z0,↓reduceIte,vcPost,vcStd,Nat.reduceEqDiff,reduceCtorEq,Nat.reduceAdd,Nat.reduceLeDiff,Int.reduceLT,Int.reduceLE,↓u_setN]
 refine (s54 h).Q ?_
 rintro r s' ⟨rfl,rfl⟩
 simp only [↓vcPre,↓z0,↓reduceIte,vcPost,vcStd,Nat.reduceEqDiff,reduceCtorEq,Nat.reduceAdd,Nat.reduceLeDiff,Int.reduceLT,Int.reduceLE,↓u_setN]
 refine ⟨fun c1 => ?_,fun c1 => ?_⟩
 ·obtain ⟨rfl,j,hj1,hj2,hj3⟩:bad=false∧∃ j:Nat,4*j≤M.length∧R=M.drop (4*j)∧l=words j M:=by
   rcases hj with hj | ⟨hb,_⟩
   ·exact hj
   ·rw [hb] at c1;simp at c1
  simp only [Bool.false_eq_true,if_false] at c1
  have hRl:R.length=M.length - 4*j:=by rw [hj2,List.length_drop]
  have hlj:l.length=j:=by rw [hj3];exact x9 j M (by omega)
  have hl1:∀ x:Int,(l++[x]).length≤M.length+1:=fun x=>by rw [List.length_append,List.length_singleton];omega
  obtain ⟨hb1,hb2⟩:=h.base
  refine (z76 hb1 (by omega) hR).Q ?_
  rintro r s2 ⟨rfl,h2⟩
  have hov:=(ho.delBox h.2.2).mono h2.2.1
  simp only [↓vcPre,↓z0,↓reduceIte,vcPost,vcStd,Nat.reduceEqDiff,reduceCtorEq,Nat.reduceAdd,Nat.reduceLeDiff,Int.reduceLT,Int.reduceLE,↓u_setN]
  refine AllocQ.i0 fun b hb => ?_
  simp only [↓vcPre,↓z0,↓reduceIte,vcPost,vcStd,Nat.reduceEqDiff,reduceCtorEq,Nat.reduceAdd,Nat.reduceLeDiff,Int.reduceLT,Int.reduceLE,↓u_setN]
  have hsb:=Store.sub_set s2 b (.arr 1 [[.int .u32 (numM 4 R false).1]]) hb
  have h3:=(h2.weak hb2).mono hsb
  refine Own.appK (τ:=σ) h3.2.1 (hov.mono hsb) (zj (Store.set_same _ _ _) rfl) (by simp;omega) fun v' s3 hs3 ho3 hk3 => ?_
  have h4:RP σ id (numM 4 R false).2.1 (numM 4 R false).2.2 s3:=⟨h3.1,hs3,hk3 _ _ h3.2.2 (fun M e=>by cases e)⟩
  have ho4:Own 1 σ ((l++[(numM 4 R false).1]).map cU) v' s3:=by simpa [cU] using ho3
  by_cases h4l:4≤R.length
  ·obtain ⟨x,hx1,hx2,hx3⟩:=z44 h4l
   rw [hx1] at h4 ho4
   refine NextQ.to (R.drop 4,false,l++[x],v',s3) rfl (Store.sub_refl _) (by simp only [Bool.false_eq_true,if_false,List.length_drop];omega) ⟨h4,ho4,hl1 _,hR.drop _,by simp;omega,.inl ⟨rfl,j+1,by omega,?_,?_⟩⟩
   ·simp only;rw [hj2,List.drop_drop];congr 1
   ·simp only;rw [wc j M (by omega),hj3,←hj2,hx2]
  ·have hx:=zap h4l
   rw [hx] at h4 ho4
   refine NextQ.to (R,true,l++[0],v',s3) rfl (Store.sub_refl _) (by simp) ⟨h4,ho4,hl1 _,hR,hRM,.inr ⟨rfl,by omega⟩⟩
 ·have e:M.length % 4=0→l=words (M.length / 4) M:=fun h4=>by
   rcases hj with ⟨hb,j,hj1,hj2,hj3⟩ | ⟨_,hb⟩
   ·rw [hb] at c1
    simp only [Bool.false_eq_true,if_false] at c1
    rw [hj2,List.length_drop] at c1
    rw [hj3];congr 1;omega
   ·exact absurd h4 hb
  exact EndQ.own rfl ho h.2.1 ⟨rfl,l,rfl,e⟩
end Go.Am
namespace Go.Am
open Go.Proofs Go.Sort
theorem w9 {x:Int} {r:List Int}:numM 1 (x::r) false=(x,r,false):=by
 have e:rawM ((1:Nat):Int) (x::r) false=([x],r,false):=by
  unfold rawM
  rw [if_neg (by simp;omega),if_neg (by omega)];rfl
 unfold numM
 rw [e];simp [num]
theorem qw:numM 1 [] false=(0,[],true):=by
 have e:rawM ((1:Nat):Int) [] false=([],[],true):=by
  unfold rawM
  rw [if_pos (by right;simp)]
 unfold numM
 rw [e];simp [num]
theorem z7v {k:Nat} {R:List Int}:numM k R true=(0,R,true):=by
 have e:rawM (k:Int) R true=([],R,true):=by
  unfold rawM
  rw [if_pos (by left;rfl)]
 unfold numM
 rw [e];simp [num]
theorem RP.setOther {τ s:Store} {id b:Nat} {R:List Int} {bad:Bool} {o:Obj} (h:RP τ id R bad s) (hb:τ b=none) (hbi:¬ id=b):RP τ id R bad (s.set b o):=⟨h.1,z6 h.2.1 hb,by rw [Store.set_ne _ _ hbi];exact h.2.2⟩
theorem OwnQ.delBox {τ s:Store} {p:List Seg} {v:AV} {b:Nat} {c:List AV} (h:OwnQ τ p v s) (hb:s b=some (.box c)):OwnQ τ p v (s.del b):=by
 obtain ⟨vs,h1,h2⟩:=h
 exact ⟨vs,h1.del fun M e=>(by rw [hb] at e;cases e),h2.delBox hb⟩
theorem z5i {k n:Int} {r:List Int} (hn:0≤n) (hl:¬ (r.length:Int)<4*n):segs (k::n::r).length (k::n::r)=(segs (r.drop (4*n.toNat)).length (r.drop (4*n.toNat))).map (⟨k,words n.toNat r⟩ :: ·):=by
 show segs (r.length+1+1) (k::n::r)=_
 simp only [segs]
 rw [if_neg hl,z0u (r.length+1) _ _ (by simp;omega) (Nat.le_refl _)]
theorem z78 {k n:Int} {r:List Int} (hl:(r.length:Int)<4*n):segs (k::n::r).length (k::n::r)=none:=by
 show segs (r.length+1+1) (k::n::r)=_
 simp only [segs]
 rw [if_pos hl]
theorem z79 {k:Int}:segs [k].length [k]=none:=rfl
def pathR (o:Option (List Seg)):AV:=match o with | some l => .tup [.sl 2 (l.map Seg.c),.bool true] | none => .tup [.sl 2 [],.bool false]
theorem EndQ.ownQT {slots:List RS} {Q:AV→Store→Prop} {e:Env} {σ τ:Store} {p:List Seg} {v:AV} {x:AV} (h1:e.res τ slots=some (.tup [v,x])) (ho:OwnQ σ p v τ) (hs:Store.sub σ τ) (h4:Q (.tup [.sl 2 (p.map Seg.c),x]) σ) : @EndQ e τ ⟨slots,Q⟩:=by
 refine EndQ.two v x σ h1 (WeakL.pos 0 rfl (Weak.of_one (ho.weak hs fun s' hs'=>WeakL.pure ⟨_,rfl,?_⟩)))
 exact WeakL.forget hs' (WeakL.pure h4)
theorem z0z (E:Env) {σ β s:Store} {id bx:Nat} (x:Seg) (l:List Seg) {v va:AV} (hσβ:Store.sub σ β) (hβs:Store.sub β s) (ho:OwnQ σ l v β) (hbx:s bx=some (.box [.int .i64 x.kind,va])) (hva:va.isTup=false∧va.cells=[va])
 (hx:(x.ls=[]∧va = .nils)∨∃ j,va = .os j 1 0 x.ls.length∧β j=none∧s j=some (.arr 1 (x.ls.map cU))) (hl:l.length≤2000000) {n r:Env→Store→Prop} {xx:Nat→Env→Store→Prop}
 (h:∀ v' s',Store.sub σ s'→OwnQ σ (l++[x]) v' s'→(∀ j o,s j=some o→(∀ M,o ≠ .arr 2 M)→s' j=some o)→n [(4,.ptr id 0),(5,v')] s') :
 bwp Tryz.prog Tsk.t107_34 ((4,.ptr id 0)::(5,v)::(6,.ptr bx 0)::E) s n r xx:=by
 simp only [Tsk.t107_34]
 simp only [hbx,↓vcPre,↓z0,↓reduceIte,vcPost,vcStd,Nat.reduceEqDiff,reduceCtorEq,Nat.reduceAdd,Nat.reduceLeDiff,Int.reduceLT,Int.reduceLE,↓u_setN]
 refine AllocQ.i0 fun c hc => ?_
 simp only [↓vcPre,↓z0,↓reduceIte,vcPost,vcStd,Nat.reduceEqDiff,reduceCtorEq,Nat.reduceAdd,Nat.reduceLeDiff,Int.reduceLT,Int.reduceLE,↓u_setN]
 have hsc:=Store.sub_set s c (.arr 2 [[.int .i64 x.kind,va]]) hc
 refine OwnQ.app (τ:=σ) (s0:=β) (x:=x) (xv:=va) hσβ (Store.sub_trans hβs hsc) ho ?_ (zj (Store.set_same _ _ _) rfl) (by omega) fun v' s' h1 h2 h3 => ?_
 ·rcases hx with hx | ⟨j,a,b,d⟩
  ·exact .inl hx
  ·exact .inr ⟨j,a,b,hsc _ _ d⟩
 ·exact h v' s' h1 h2 fun j o hj hn=>h3 j o (hsc _ _ hj) hn
set_option maxHeartbeats 1000000 in
theorem zed {M:List Int} (hM:M.length≤1000000) (hu:U8s M):Pur Tryz.prog 107 [.sl 1 (M.map cB)] (pathR (decPath M)):=by
 intro σ
 refine zf Tsk.F107 (by simp [Tsk.F107,Fn.mkX]) ?_
 simp only [Tsk.F107,Fn.mkX,Tsk.b107]
 simp only [↓vcPre,↓z0,↓reduceIte,vcPost,vcStd,Nat.reduceEqDiff,reduceCtorEq,Nat.reduceAdd,Nat.reduceLeDiff,Int.reduceLT,Int.reduceLE,↓u_setN]
 refine (s51 Rd.sl (by omega)).Q ?_
 rintro r s ⟨id,rfl,h⟩
 simp only [↓vcPre,↓z0,↓reduceIte,vcPost,vcStd,Nat.reduceEqDiff,reduceCtorEq,Nat.reduceAdd,Nat.reduceLeDiff,Int.reduceLT,Int.reduceLE,↓u_setN]
 refine LoopQ.inv (S:=List Int×Bool×List Seg×AV×Store) (fun q=>[(4,.ptr id 0),(5,q.2.2.2.1)]) (fun q=>q.2.2.2.2)
  (fun q=>RP σ id q.1 q.2.1 q.2.2.2.2∧OwnQ σ q.2.2.1 q.2.2.2.1 q.2.2.2.2∧q.2.2.1.length+q.1.length≤M.length+(if q.2.1 then 1 else 0)∧U8s q.1∧((q.2.1=false∧segs M.length M=(segs q.1.length q.1).map (q.2.2.1 ++ ·))∨(q.2.1=true∧segs M.length M=none)))
  (fun q=>if q.2.1 then 0 else q.1.length+1) (M,false,[],.nils,s) rfl (Store.sub_refl _) ⟨h,.nil,by simp,hu,.inl ⟨rfl,by simp only;cases segs M.length M <;> rfl⟩⟩ ?_
 rintro ⟨R,bad,l,v,s⟩ ⟨h,ho,hl,hR,hj⟩
 simp only at h ho hl hR hj
 simp only [↓vcPre,↓z0,↓reduceIte,vcPost,vcStd,Nat.reduceEqDiff,reduceCtorEq,Nat.reduceAdd,Nat.reduceLeDiff,Int.reduceLT,Int.reduceLE,↓u_setN]
 refine (s54 h).Q ?_
 rintro r s' ⟨rfl,rfl⟩
 simp only [↓vcPre,↓z0,↓reduceIte,vcPost,vcStd,Nat.reduceEqDiff,reduceCtorEq,Nat.reduceAdd,Nat.reduceLeDiff,Int.reduceLT,Int.reduceLE,↓u_setN]
 have bad2:segs M.length M=none→∀ τ',Store.sub σ τ' → @EndQ [(2,.nils),(3,.bool false)] τ' ⟨Tsk.F107.slots,fun r s=>s=σ∧r=pathR (decPath M)⟩:=fun hn τ' hs=>by
  refine EndQ.twoNil (.bool false) 2 σ rfl hs ⟨rfl,?_⟩
  unfold decPath;rw [hn];rfl
 refine ⟨fun c1 => ?_,fun c1 => ?_⟩
 ·obtain ⟨rfl,hseg⟩:bad=false∧segs M.length M=(segs R.length R).map (l ++ ·):=by
   rcases hj with hj | ⟨hb,_⟩
   ·exact hj
   ·rw [hb] at c1;simp at c1
  simp only [Bool.false_eq_true,if_false] at c1 hl
  obtain ⟨k0,R1,rfl⟩:∃ k0 R1,R=k0::R1:=by cases R with | nil=>simp at c1 | cons a b=>exact ⟨a,b,rfl⟩
  simp only [List.length_cons] at hl
  obtain ⟨hb1,hb2⟩:=h.base
  refine (s95 hb1 (by simp;omega) hR).Q ?_
  rw [w9]
  rintro r s2 ⟨rfl,h2⟩
  simp only at h2
  have ho2:=(ho.delBox h.2.2).mono h2.2.1
  have h2':=h2.weak hb2
  simp only [↓vcPre,↓z0,↓reduceIte,vcPost,vcStd,Nat.reduceEqDiff,reduceCtorEq,Nat.reduceAdd,Nat.reduceLeDiff,Int.reduceLT,Int.reduceLE,↓u_setN]
  refine AllocQ.i0 fun bx hbx => ?_
  have hib:¬ id=bx:=fun e=>by have:=h2'.2.2;rw [e,hbx] at this;cases this
  simp only [Store.set_set,↓vcPre,↓z0,↓reduceIte,vcPost,vcStd,Nat.reduceEqDiff,reduceCtorEq,Nat.reduceAdd,Nat.reduceLeDiff,Int.reduceLT,Int.reduceLE,↓u_setN]
  have hσb:σ bx=none:=zi h2'.2.1 hbx
  have hR1:U8s R1:=fun x hx=>hR x (by simp [hx])
  have hT:=h2'.setOther (o := .box [.int .i64 k0,.nils]) hσb hib
  have hoT:=ho2.mono (Store.sub_set _ bx (.box [.int .i64 k0,.nils]) hbx)
  have hTb:(s2.set bx (.box [.int .i64 k0,.nils])) bx=some (.box [.int .i64 k0,.nils]):=Store.set_same _ _ _
  generalize s2.set bx (.box [.int .i64 k0,.nils])=T at hT hoT hTb ⊢
  obtain ⟨hc1,hc2⟩:=hT.base
  refine (s95 hc1 (by omega) hR1).Q ?_
  rintro r s3 ⟨rfl,h3⟩
  have ho3:=(hoT.delBox hT.2.2).mono h3.2.1
  have hb3:s3 bx=some (.box [.int .i64 k0,.nils]):=h3.2.1 _ _ (by rw [Store.del_ne _ (fun e=>hib e.symm)];exact hTb)
  have h3':=h3.weak hc2
  simp only [↓vcPre,↓z0,↓reduceIte,vcPost,vcStd,Nat.reduceEqDiff,reduceCtorEq,Nat.reduceAdd,Nat.reduceLeDiff,Int.reduceLT,Int.reduceLE,↓u_setN]
  refine (s54 h3').Q ?_
  rintro r s3' ⟨rfl,rfl⟩
  have hbd:(s3'.del id) bx=some (.box [.int .i64 k0,.nils]):=by rw [Store.del_ne _ (fun e=>hib e.symm)];exact hb3
  have hseg1:∀ {o},segs (k0::R1).length (k0::R1)=o→segs M.length M=o.map (l ++ ·):=fun h=>by rw [hseg,h]
  cases R1 with
  | nil =>
    rw [qw] at h3 h3' ⊢
    simp only [if_true] at h3 h3' ⊢
    have hz:IntKind.i64.wrap (0*4)=0:=by decide
    simp only [hz,↓vcPre,↓z0,↓reduceIte,vcPost,vcStd,Nat.reduceEqDiff,reduceCtorEq,Nat.reduceAdd,Nat.reduceLeDiff,Int.reduceLT,Int.reduceLE,↓u_setN]
    refine LoopQ.inv (S:=Unit) (fun _=>[(4,.ptr id 0),(5,v),(6,.ptr bx 0),(23,.int .i64 0),(24,.int .i64 0)]) (fun _=>s3') (fun _=>True) (fun _=>0) () rfl (Store.sub_refl _) trivial ?_
    intro _ _
    simp only [↓vcPre,↓z0,↓reduceIte,vcPost,vcStd,Nat.reduceEqDiff,reduceCtorEq,Nat.reduceAdd,Nat.reduceLeDiff,Int.reduceLT,Int.reduceLE,↓u_setN]
    refine z0z _ ⟨k0,[]⟩ l (β:=s3') h3'.2.1 (Store.sub_refl _) ho3 hb3 ⟨rfl,rfl⟩ (.inl ⟨rfl,rfl⟩) (by omega) fun v' s' k1 k2 k3 => ?_
    refine NextQ.to ([],true,l++[⟨k0,[]⟩],v',s') rfl (Store.sub_refl _) (by simp) ⟨⟨h3'.1,k1,k3 _ _ h3'.2.2 (fun M e=>by cases e)⟩,k2,by simp at hl ⊢;omega,fun x hx=>by simp at hx,.inr ⟨rfl,hseg1 z79⟩⟩
  | cons n0 R2 =>
    rw [w9] at h3 h3' ⊢
    simp only [Bool.false_eq_true,if_false,List.length_cons] at h3 h3' hl ⊢
    have hn0:=hR1 n0 (by simp)
    have hR2:U8s R2:=fun x hx=>hR1 x (by simp [hx])
    have hw:IntKind.i64.wrap (n0*4)=n0*4:=za (by unfold I64;omega)
    simp only [hw,↓vcPre,↓z0,↓reduceIte,vcPost,vcStd,Nat.reduceEqDiff,reduceCtorEq,Nat.reduceAdd,Nat.reduceLeDiff,Int.reduceLT,Int.reduceLE,↓u_setN]
    refine ⟨fun d1 => ?_,fun d1 => ?_⟩
    ·exact bad2 (hseg1 (z78 (by omega))) _ h3'.2.1
    ·obtain ⟨m,rfl⟩:=Int.eq_ofNat_of_zero_le hn0.1
     have hml:4*m≤R2.length:=by omega
     have hβi:((s3'.del id).del bx) id=none:=by rw [Store.del_ne _ hib];simp
     have hβb:((s3'.del id).del bx) bx=none:=by simp
     have hβs:Store.sub ((s3'.del id).del bx) s3':=Store.sub_trans (yf _ _) (yf _ _)
     have hσβ:Store.sub σ ((s3'.del id).del bx):=sub_del (sub_del h3'.2.1 h3'.1) hσb
     have hoβ:OwnQ σ l v ((s3'.del id).del bx):=(ho3.delBox h3'.2.2).delBox hbd
     generalize hβ:(s3'.del id).del bx=β at hβi hβb hβs hσβ hoβ
     refine LoopQ.inv (S:=Nat×AV×Store) (fun q=>[(4,.ptr id 0),(5,v),(6,.ptr bx 0),(23,.int .i64 (m:Int)),(24,.int .i64 (q.1:Int))]) (fun q=>q.2.2)
      (fun q=>q.1≤m∧RP β id (R2.drop (4*q.1)) false q.2.2∧q.2.2 bx=some (.box [.int .i64 k0,q.2.1])∧Own 1 β ((words q.1 R2).map cU) q.2.1 q.2.2) (fun q=>m+1 - q.1) (0,.nils,s3') rfl (Store.sub_refl _) ⟨by simp only;omega,⟨hβi,hβs,by simpa using h3'.2.2⟩,hb3,by simp only;cases R2 <;> exact .nil⟩ ?_
     rintro ⟨j,va,s5⟩ ⟨hjm,hr5,hb5,ho5⟩
     simp only at hjm hr5 hb5 ho5
     have hwl:=x9 j R2 (by omega)
     simp only [↓vcPre,↓z0,↓reduceIte,vcPost,vcStd,Nat.reduceEqDiff,reduceCtorEq,Nat.reduceAdd,Nat.reduceLeDiff,Int.reduceLT,Int.reduceLE,↓u_setN]
     refine ⟨fun e1 => ?_,fun e1 => ?_⟩
     ·have ej:IntKind.i64.wrap ((j:Int)+1)=((j+1:Nat):Int):=by rw [za (by unfold I64;omega)];omega
      obtain ⟨x,hx1,hx2,hx3⟩:=z44 (R:=R2.drop (4*j)) (by rw [List.length_drop];omega)
      obtain ⟨hd1,hd2⟩:=hr5.base
      have hβd:Store.sub β (s5.del id):=hd2
      have hbd5:(s5.del id) bx=some (.box [.int .i64 k0,va]):=by rw [Store.del_ne _ (fun e=>hib e.symm)];exact hb5
      have hod:=ho5.delBox hr5.2.2
      have key:∀ s6,RP (s5.del id) id (numM 4 (R2.drop (4*j)) false).2.1 (numM 4 (R2.drop (4*j)) false).2.2 s6→s6 bx=some (.box [.int .i64 k0,va])∧Own 1 β ((words j R2).map cU) va s6:=fun s6 h6=>⟨h6.2.1 _ _ hbd5,hod.mono h6.2.1⟩
      refine ⟨?_,?_⟩
      ·simp only [hb5,↓vcPre,↓z0,↓reduceIte,vcPost,vcStd,Nat.reduceEqDiff,reduceCtorEq,Nat.reduceAdd,Nat.reduceLeDiff,Int.reduceLT,Int.reduceLE,↓u_setN]
       refine (z76 hd1 (by rw [List.length_drop];omega) (hR2.drop _)).Q ?_
       rintro r s6 ⟨rfl,h6⟩
       obtain ⟨hb6,hov⟩:=key s6 h6
       simp only [↓vcPre,↓z0,↓reduceIte,vcPost,vcStd,Nat.reduceEqDiff,reduceCtorEq,Nat.reduceAdd,Nat.reduceLeDiff,Int.reduceLT,Int.reduceLE,↓u_setN]
       refine AllocQ.i0 fun c hc => ?_
       simp only [↓vcPre,↓z0,↓reduceIte,vcPost,vcStd,Nat.reduceEqDiff,reduceCtorEq,Nat.reduceAdd,Nat.reduceLeDiff,Int.reduceLT,Int.reduceLE,↓u_setN]
       have hsc:=Store.sub_set s6 c (.arr 1 [[.int .u32 (numM 4 (R2.drop (4*j)) false).1]]) hc
       refine Own.appK (τ:=β) (Store.sub_trans (Store.sub_trans hβd h6.2.1) hsc) (hov.mono hsc) (zj (Store.set_same _ _ _) rfl) (by simp;omega) fun va' s7 hs7 ho7 hk7 => ?_
       have hb7:=hk7 _ _ (hsc _ _ hb6) (fun M e=>by cases e)
       have hi7:=hk7 _ _ (hsc _ _ h6.2.2) (fun M e=>by cases e)
       have hvc:=ho7.cell
       simp only [hb7,hvc.1,hvc.2,↓vcPre,↓z0,↓reduceIte,vcPost,vcStd,Nat.reduceEqDiff,reduceCtorEq,Nat.reduceAdd,Nat.reduceLeDiff,Int.reduceLT,Int.reduceLE,↓u_setN]
       rw [ej]
       rw [hx1] at hi7 ho7
       refine NextQ.to (j+1,va',s7.set bx (.box [.int .i64 k0,va'])) rfl (Store.sub_refl _) (by simp only;omega) ⟨by simp only;omega,⟨hβi,z6 hs7 hβb,?_⟩,Store.set_same _ _ _,?_⟩
       ·simp only
        rw [Store.set_ne _ _ hib,hi7]
        simp only [List.drop_drop]
        rfl
       ·simp only
        rw [wc j R2 (by omega),hx2,List.map_append]
        exact ho7.setId hb7 (fun M e=>by cases e)
      ·refine (z76 hd1 (by rw [List.length_drop];omega) (hR2.drop _)).Q ?_
       rintro r s6 ⟨rfl,h6⟩
       obtain ⟨hb6,hov⟩:=key s6 h6
       simp only [hb6,↓vcPre,↓z0,↓reduceIte,vcPost,vcStd,Nat.reduceEqDiff,reduceCtorEq,Nat.reduceAdd,Nat.reduceLeDiff,Int.reduceLT,Int.reduceLE,↓u_setN]
       refine AllocQ.i0 fun c hc => ?_
       simp only [↓vcPre,↓z0,↓reduceIte,vcPost,vcStd,Nat.reduceEqDiff,reduceCtorEq,Nat.reduceAdd,Nat.reduceLeDiff,Int.reduceLT,Int.reduceLE,↓u_setN]
       have hsc:=Store.sub_set s6 c (.arr 1 [[.int .u32 (numM 4 (R2.drop (4*j)) false).1]]) hc
       refine Own.appK (τ:=β) (Store.sub_trans (Store.sub_trans hβd h6.2.1) hsc) (hov.mono hsc) (zj (Store.set_same _ _ _) rfl) (by simp;omega) fun va' s7 hs7 ho7 hk7 => ?_
       have hb7:=hk7 _ _ (hsc _ _ hb6) (fun M e=>by cases e)
       have hi7:=hk7 _ _ (hsc _ _ h6.2.2) (fun M e=>by cases e)
       have hvc:=ho7.cell
       simp only [hb7,hvc.1,hvc.2,↓vcPre,↓z0,↓reduceIte,vcPost,vcStd,Nat.reduceEqDiff,reduceCtorEq,Nat.reduceAdd,Nat.reduceLeDiff,Int.reduceLT,Int.reduceLE,↓u_setN]
       rw [ej]
       rw [hx1] at hi7 ho7
       refine NextQ.to (j+1,va',s7.set bx (.box [.int .i64 k0,va'])) rfl (Store.sub_refl _) (by simp only;omega) ⟨by simp only;omega,⟨hβi,z6 hs7 hβb,?_⟩,Store.set_same _ _ _,?_⟩
       ·simp only
        rw [Store.set_ne _ _ hib,hi7]
        simp only [List.drop_drop]
        rfl
       ·simp only
        rw [wc j R2 (by omega),hx2,List.map_append]
        exact ho7.setId hb7 (fun M e=>by cases e)
     ·have hjm':j=m:=by omega
      subst hjm'
      have hx:(words j R2=[]∧va = .nils)∨∃ g,va = .os g 1 0 (words j R2).length∧β g=none∧s5 g=some (.arr 1 ((words j R2).map cU)):=by
       rcases ho5 with ⟨a,b⟩ | ⟨g,a,b,c⟩
       ·exact .inl ⟨by simpa using a,b⟩
       ·exact .inr ⟨g,by rw [a];simp,b,c⟩
      have hsg:=z5i (k:=k0) (n:=(j:Int)) (r:=R2) (by omega) (by omega)
      rw [Int.toNat_natCast] at hsg
      refine z0z _ ⟨k0,words j R2⟩ l (β:=β) hσβ hr5.2.1 hoβ hb5 ho5.cell hx (by omega) fun v' s' k1 k2 k3 => ?_
      refine NextQ.to (R2.drop (4*j),false,l++[⟨k0,words j R2⟩],v',s') rfl (Store.sub_refl _) (by simp only [Bool.false_eq_true,if_false,List.length_drop,List.length_cons];omega) ⟨⟨zi hσβ hβi,k1,k3 _ _ hr5.2.2 (fun M e=>by cases e)⟩,k2,by simp;omega,hR2.drop _,.inl ⟨rfl,?_⟩⟩
      simp only
      rw [hseg1 hsg]
      cases segs (R2.drop (4*j)).length (R2.drop (4*j)) <;> simp
 ·have hll:l.length≤1000001:=by cases bad <;> simp at hl <;> omega
  refine (s55 h).Q ?_
  rintro r s' ⟨rfl,rfl⟩
  rcases hj with ⟨hb,hseg⟩ | ⟨hb,hseg⟩
  ·subst hb
   simp only [Bool.false_eq_true,if_false] at c1
   have hR0:R=[]:=List.length_eq_zero_iff.1 (by omega)
   subst hR0
   have hs':segs M.length M=some l:=by rw [hseg];simp [segs]
   simp only [↓vcPre,↓z0,↓reduceIte,vcPost,vcStd,Nat.reduceEqDiff,reduceCtorEq,Nat.reduceAdd,Nat.reduceLeDiff,Int.reduceLT,Int.reduceLE,↓u_setN]
   refine (z5f ho (by simp at hl;omega)).Q ?_
   rintro r s2 ⟨rfl,rfl⟩
   by_cases g:pathRight l
   ·rw [decide_eq_true g]
    simp only [↓vcPre,↓z0,↓reduceIte,vcPost,vcStd,Nat.reduceEqDiff,reduceCtorEq,Nat.reduceAdd,Nat.reduceLeDiff,Int.reduceLT,Int.reduceLE,↓u_setN]
    refine EndQ.ownQT rfl ho h.2.1 ⟨rfl,?_⟩
    unfold decPath;rw [hs'];simp only;rw [if_pos g];rfl
   ·rw [decide_eq_false g]
    simp only [↓vcPre,↓z0,↓reduceIte,vcPost,vcStd,Nat.reduceEqDiff,reduceCtorEq,Nat.reduceAdd,Nat.reduceLeDiff,Int.reduceLT,Int.reduceLE,↓u_setN]
    refine EndQ.twoNil (.bool false) 2 σ rfl h.2.1 ⟨rfl,?_⟩
    unfold decPath;rw [hs'];simp only;rw [if_neg g];rfl
  ·subst hb
   simp only [↓vcPre,↓z0,↓reduceIte,vcPost,vcStd,Nat.reduceEqDiff,reduceCtorEq,Nat.reduceAdd,Nat.reduceLeDiff,Int.reduceLT,Int.reduceLE,↓u_setN]
   exact bad2 hseg _ h.2.1
end Go.Am
namespace Go.Am
open Go.Proofs Go.Sort
theorem RF.base {τ s:Store} {id:Nat} {v:AV} {B:List Int} {at_:Nat} {lack:Bool} (h:RF τ id v B at_ lack s):RF (s.del id) id v B at_ lack s∧Store.sub τ (s.del id) :=
 ⟨⟨by simp,yf _ _,h.2.2.1,h.2.2.2.1.mono (sub_del h.2.1 h.1),h.2.2.2.2⟩,sub_del h.2.1 h.1⟩
def RX (σ τ:Store) (id:Nat) (R:List Int) (lack:Bool) (s:Store):Prop:=∃ (v:AV) (B:List Int) (at_:Nat),τ id=none∧Store.sub τ s∧Store.sub σ τ∧s id=some (.box [v,.int .i64 (at_:Int),.bool lack])∧Rd 1 σ (B.map cB) v∧at_≤B.length∧R=B.drop at_∧B.length≤1000000000∧U8s B
theorem RX.base {σ τ s:Store} {id:Nat} {R:List Int} {lack:Bool} (h:RX σ τ id R lack s):RX σ (s.del id) id R lack s∧Store.sub τ (s.del id):=by
 obtain ⟨v,B,at_,h1,h2,h3,h4,h5⟩:=h
 exact ⟨⟨v,B,at_,by simp,yf _ _,Store.sub_trans h3 (sub_del h2 h1),h4,h5⟩,sub_del h2 h1⟩
theorem RX.of {σ τ s:Store} {id:Nat} {v:AV} {B:List Int} {at_:Nat} {lack:Bool} (h:RF τ id v B at_ lack s) (h1:B.length≤1000000000) (h2:U8s B) (h3:Store.sub σ τ) (h4:Rd 1 σ (B.map cB) v):RX σ τ id (B.drop at_) lack s:=⟨v,B,at_,h.1,h.2.1,h3,h.2.2.1,h4,h.2.2.2.2,rfl,h1,h2⟩
end Go.Am
namespace Go.Am.Tsl
open Go.Proofs Go.Am.B
def t67_24:BC:=z [m 24 5,m 25 7,g 26 52 [.t 24,.t 25],f 27 2 6,s 1 27 26] [0,2,5,6] (.seq (z [m 28 5,g 29 55 [.t 28],u 30 .not 29] [0,2,5,6,30] (.cond (.t 30) (z [p 31 (.build [(.int .i64 0),(.int .i64 0),.nils,.nils] []) [],s 4 2 31,k 3 .nils,k 4 (.bool false)] [2,3,4] .ret) .skip)) (z [m 32 0,u 33 .len 32,m 34 5,g 35 54 [.t 34],b 36 .sub 33 35,m 8 36] [0,2,6,8] (z [m 37 0,m 38 8,p 39 (.slice 1 false true) [.t 37,.t 38],f 40 3 6,s 1 40 39] [0,2,6,8] (z [m 42 0,m 43 8,p 44 (.slice 1 true false) [.t 42,.t 43],⟨some 41,none,.load (.ld 4 true),[.t 6]⟩,s 4 2 41,m 3 44,k 4 (.bool true)] [2,3,4] .ret))))
def b67:BC:=z [⟨some 2,none,.alloc (.alloc [(.int .i64 0),(.int .i64 0),.nils,.nils]),[]⟩,k 3 .nils,k 4 (.bool false)] [0,2] (z [m 9 0,g 10 51 [.t 9],m 5 10] [0,2,5] (z [m 11 5,g 12 95 [.t 11],m 13 5,g 14 95 [.t 13],p 15 (.build [(.int .i64 0),(.int .i64 0),.nils,.nils] [(0,1),(1,1)]) [.t 12,.t 14],⟨some 6,none,.alloc (.alloc [(.int .i64 0),(.int .i64 0),.nils,.nils]),[]⟩,s 4 6 15] [0,2,5,6] (z [j 7 0] [0,2,5,6] (.seq (z [f 16 0 6,l 17 1 16,c 18 .and 17 16,c 19 .neq 18 0] [0,2,5,6,19] (.cond (.t 19) (.ops [m 20 5,g 21 53 [.t 20],m 7 21] [0,2,5,6,7]) (.ops [m 22 5,g 23 95 [.t 22],m 7 23] [0,2,5,6,7]))) t67_24))))
def F67:Fn Tryz.prog 67:=Fn.mkX false b67 [.c 2 4 true,.t 3,.t 4] 45 Tryz.f67 _ Tryz.func67 (by decide) rfl Tryz.ntmps67 (by kernel_rfl) (by kernel_rfl)
end Go.Am.Tsl
namespace Go.Am
open Go.Proofs Go.Sort
def chain (B:List Int):Int×Int×Int×List Int×List Int×Bool :=
 let a:=numM 1 B false
 let b:=numM 1 a.2.1 a.2.2
 let c:=if andI a.1 16=0 then numM 1 b.2.1 b.2.2 else numM 2 b.2.1 b.2.2
 let d:=rawM c.1 c.2.1 c.2.2
 (a.1,b.1,c.1,d.1,d.2.1,d.2.2)
theorem z7u {x y:Int} {r:List Int}:numM 2 (x::y::r) false=(x*256+y,r,false):=by
 have e:rawM ((2:Nat):Int) (x::y::r) false=([x,y],r,false):=by
  unfold rawM
  rw [if_neg (by simp;omega),if_neg (by omega)];rfl
 unfold numM
 rw [e];simp [num]
theorem z58 {R:List Int} (h:R.length<2):numM 2 R false=(0,R,true):=by
 have e:rawM ((2:Nat):Int) R false=([],R,true):=by
  unfold rawM
  rw [if_pos (by right;omega)]
 unfold numM
 rw [e];simp [num]
theorem z14 {n:Int} {R:List Int}:rawM n R true=([],R,true):=by
 unfold rawM
 rw [if_pos (by left;rfl)]
def chunkF (B:List Int) (c:Ch):Prop:=chain B=(c.fl,c.kind,(c.val.length:Int),c.val,c.rest,false)∧c.all=B.take (B.length - c.rest.length)∧c.rest=B.drop (B.length - c.rest.length)∧c.rest.length<B.length
theorem z1y {n:Int} {R:List Int} (h0:0≤n) (h:¬ (R.length:Int)<n):rawM n R false=(R.take n.toNat,R.drop n.toNat,false):=by
 unfold rawM
 rw [if_neg (by simp;omega)]
 split
 ·have:n.toNat=0:=by omega
  rw [this];simp
 ·rfl
theorem z2i {B:List Int} (hu:U8s B):(chunk B=none∧(chain B).2.2.2.2.2=true)∨∃ c,chunk B=some c∧chunkF B c:=by
 match B,hu with
 | [],_=>exact .inl ⟨rfl,by simp [chain,qw,z7v,z14]⟩
 | [f],_ =>
   refine .inl ⟨rfl,?_⟩
   simp only [chain,w9,qw,z7v]
   split <;> rw [z14]
 | [f,k],_ =>
   refine .inl ⟨rfl,?_⟩
   simp only [chain,w9,qw,z58 (R:=[]) (by simp)]
   split <;> rw [z14]
 | f::k::h::r,hu =>
   have hh:=hu h (by simp)
   by_cases hf:andI f 16=0
   ·by_cases hl:(r.length:Int)<h
    ·refine .inl ⟨by simp only [chunk];rw [if_pos hf,if_pos hl],?_⟩
     simp only [chain,w9,if_pos hf]
     unfold rawM;rw [if_pos (by right;exact hl)]
    ·refine .inr ⟨⟨f,k,r.take h.toNat,(f::k::h::r).take (3+h.toNat),r.drop h.toNat⟩,by simp only [chunk];rw [if_pos hf,if_neg hl],?_⟩
     have e:(f::k::h::r).length - (r.drop h.toNat).length=3+h.toNat:=by simp;omega
     refine ⟨?_,by simp only;rw [e],?_,by simp;omega⟩
     ·simp only [chain,w9,if_pos hf,z1y hh.1 hl]
      rw [List.length_take]
      congr 3;omega
     ·simp only;rw [e,Nat.add_comm];simp
   ·match r,hu with
    | [],_ =>
      refine .inl ⟨by simp only [chunk];rw [if_neg hf],?_⟩
      simp only [chain,w9,if_neg hf,z58 (R:=[h]) (by simp)]
      rw [z14]
    | l::r',hu =>
      have hll:=hu l (by simp)
      by_cases hl:(r'.length:Int)<h*256+l
      ·refine .inl ⟨by simp only [chunk];rw [if_neg hf,if_pos hl],?_⟩
       simp only [chain,w9,if_neg hf,z7u]
       unfold rawM;rw [if_pos (by right;exact hl)]
      ·refine .inr ⟨⟨f,k,r'.take (h*256+l).toNat,(f::k::h::l::r').take (4+(h*256+l).toNat),r'.drop (h*256+l).toNat⟩,by simp only [chunk];rw [if_neg hf,if_neg hl],?_⟩
       have e:(f::k::h::l::r').length - (r'.drop (h*256+l).toNat).length=4+(h*256+l).toNat:=by simp;omega
       refine ⟨?_,by simp only;rw [e],?_,by simp;omega⟩
       ·simp only [chain,w9,z7u,if_neg hf,z1y (n:=h*256+l) (by omega) hl]
        rw [List.length_take]
        congr 3;omega
       ·simp only;rw [e,Nat.add_comm];simp
theorem Rd.sliceL {esz:Nat} {τ:Store} {L:List (List AV)} {v:AV} (h:Rd esz τ L v) {lo:Nat} (h1:lo≤L.length):∃ v',pSlice esz v (lo:Int) none=some v'∧Rd esz τ (L.drop lo) v':=by
 obtain ⟨v',h2,h3⟩:=h.slice (lo:=lo) (hi:=L.length) h1 (Nat.le_refl _)
 refine ⟨v',?_,by rwa [List.take_length] at h3⟩
 rw [←h2]
 have hl:=h.2
 rcases h.cases with ⟨rfl,h0⟩ | rfl | ⟨g,o,n,rfl⟩
 ·subst h0;simp [pSlice]
 ·simp [pSlice]
 ·simp only [pv,pLen,Option.some.injEq,AV.int.injEq,true_and] at hl
  simp [pSlice,hl]
theorem uq {k:Nat} {R:List Int} {b:Bool} (h:U8s R):U8s (numM k R b).2.1∧(numM k R b).2.1.length≤R.length:=⟨(z0b h).2,rawM_len.1⟩
theorem s67 {τ0 σ:Store} (h0:Store.sub τ0 σ) {B:List Int} {v:AV} (hr0:Rd 1 τ0 (B.map cB) v) (hB:B.length≤1000000) (hu:U8s B):ACalls Tryz.prog 67 [v] σ (fun r s=>s=σ ∧
 match chunk B with
 | none=>r = .tup [.agg [.int .i64 0,.int .i64 0,.nils,.nils],.nils,.bool false]
 | some c=>∃ av rv,r = .tup [.agg [.int .i64 c.fl,.int .i64 c.kind,.sl 1 (c.val.map cB),av],rv,.bool true]∧Rd 1 τ0 (c.all.map cB) av∧Rd 1 τ0 (c.rest.map cB) rv):=by
 have hr:=hr0.mono h0
 refine zf Tsl.F67 (by simp [Tsl.F67,Fn.mkX]) ?_
 simp only [Tsl.F67,Fn.mkX,Tsl.b67]
 have hlen:pv .len [v]=some (.int .i64 (B.length:Int)):=by rw [hr.2];simp
 simp only [↓vcPre,↓z0,↓reduceIte,vcPost,vcStd,Nat.reduceEqDiff,reduceCtorEq,Nat.reduceAdd,Nat.reduceLeDiff,Int.reduceLT,Int.reduceLE,↓u_setN]
 refine AllocQ.i0 fun i hi => ?_
 simp only [↓vcPre,↓z0,↓reduceIte,vcPost,vcStd,Nat.reduceEqDiff,reduceCtorEq,Nat.reduceAdd,Nat.reduceLeDiff,Int.reduceLT,Int.reduceLE,↓u_setN]
 have hsi:=Store.sub_set σ i (.box [.int .i64 0,.int .i64 0,.nils,.nils]) hi
 have hTi:(σ.set i (.box [.int .i64 0,.int .i64 0,.nils,.nils])) i=some (.box [.int .i64 0,.int .i64 0,.nils,.nils]):=Store.set_same _ _ _
 generalize σ.set i (.box [.int .i64 0,.int .i64 0,.nils,.nils])=T at hsi hTi ⊢
 refine (s51 (hr.mono hsi) (by omega)).Q ?_
 rintro r s ⟨id,rfl,h⟩
 simp only [↓vcPre,↓z0,↓reduceIte,vcPost,vcStd,Nat.reduceEqDiff,reduceCtorEq,Nat.reduceAdd,Nat.reduceLeDiff,Int.reduceLT,Int.reduceLE,↓u_setN]
 have hch:=z2i hu
 unfold chunkF chain at hch
 refine (s95 h (by omega) hu).Q ?_
 have n1:=uq (k:=1) (b:=false) hu
 generalize numM 1 B false=a at hch n1 ⊢
 obtain ⟨f,R1,b1⟩:=a
 simp only at hch n1
 rintro r s1 ⟨rfl,h1⟩
 simp only at h1
 simp only [↓vcPre,↓z0,↓reduceIte,vcPost,vcStd,Nat.reduceEqDiff,reduceCtorEq,Nat.reduceAdd,Nat.reduceLeDiff,Int.reduceLT,Int.reduceLE,↓u_setN]
 refine (s95 h1 (by omega) n1.1).Q ?_
 have n2:=uq (k:=1) (b:=b1) n1.1
 generalize numM 1 R1 b1=a at hch n2 ⊢
 obtain ⟨k,R2,b2⟩:=a
 simp only at hch n2
 rintro r s2 ⟨rfl,h2⟩
 simp only at h2
 simp only [↓vcPre,↓z0,↓reduceIte,vcPost,vcStd,Nat.reduceEqDiff,reduceCtorEq,Nat.reduceAdd,Nat.reduceLeDiff,Int.reduceLT,Int.reduceLE,↓u_setN]
 refine AllocQ.i0 fun ix hix => ?_
 have hTx:¬ i=ix:=fun e=>by rw [←e,h2.2.1 _ _ hTi] at hix;cases hix
 have hdx:¬ id=ix:=fun e=>by have:=h2.2.2;rw [e,hix] at this;cases this
 have hτx:T ix=none:=zi h2.2.1 hix
 simp only [Store.set_set,↓vcPre,↓z0,↓reduceIte,vcPost,vcStd,Nat.reduceEqDiff,reduceCtorEq,Nat.reduceAdd,Nat.reduceLeDiff,Int.reduceLT,Int.reduceLE,↓u_setN]
 have h3:=h2.setOther (o := .box [.int .i64 f,.int .i64 k,.nils,.nils]) hτx hdx
 have hx3:(s2.set ix (.box [.int .i64 f,.int .i64 k,.nils,.nils])) ix=some (.box [.int .i64 f,.int .i64 k,.nils,.nils]):=Store.set_same _ _ _
 generalize s2.set ix (.box [.int .i64 f,.int .i64 k,.nils,.nils])=s3 at h3 hx3 ⊢
 have tail:∀ (n:Int) (R3:List Int) (b3:Bool) (s4:Store),U8s R3→R3.length≤B.length→RP T id R3 b3 s4→s4 ix=some (.box [.int .i64 f,.int .i64 k,.nils,.nils]) →
  ((chunk B=none∧(rawM n R3 b3).2.2=true)∨∃ c,chunk B=some c∧(f,k,n,(rawM n R3 b3).1,(rawM n R3 b3).2.1,(rawM n R3 b3).2.2)=(c.fl,c.kind,(c.val.length:Int),c.val,c.rest,false)∧c.all=B.take (B.length - c.rest.length)∧c.rest=B.drop (B.length - c.rest.length)∧c.rest.length<B.length) →
  ∀ nn xx,bwp Tryz.prog Tsl.t67_24 [(0,v),(2,.ptr i 0),(5,.ptr id 0),(6,.ptr ix 0),(7,.int .i64 n)] s4 nn (fun e s => @EndQ e s ⟨Tsl.F67.slots,fun r s=>s=σ ∧
  match chunk B with
  | none=>r = .tup [.agg [.int .i64 0,.int .i64 0,.nils,.nils],.nils,.bool false]
  | some c=>∃ av rv,r = .tup [.agg [.int .i64 c.fl,.int .i64 c.kind,.sl 1 (c.val.map cB),av],rv,.bool true]∧Rd 1 τ0 (c.all.map cB) av∧Rd 1 τ0 (c.rest.map cB) rv⟩) xx:=by
  intro n R3 b3 s4 hu3 hl3 h4 hx4 hcc nn xx
  simp only [Tsl.t67_24]
  obtain ⟨k1,k2⟩:=h4.base
  simp only [↓vcPre,↓z0,↓reduceIte,vcPost,vcStd,Nat.reduceEqDiff,reduceCtorEq,Nat.reduceAdd,Nat.reduceLeDiff,Int.reduceLT,Int.reduceLE,↓u_setN]
  refine (s52 k1 (by omega) n).Q ?_
  have n5:=rawM_len (n:=n) (bad:=b3) (R:=R3)
  generalize rawM n R3 b3=q at hcc n5 ⊢
  obtain ⟨val,R4,b4⟩:=q
  simp only at hcc n5
  rintro r s5 ⟨rfl,h5⟩
  simp only at h5
  have hx5:s5 ix=some (.box [.int .i64 f,.int .i64 k,.nils,.nils]):=h5.2.1 _ _ (by rw [Store.del_ne _ (fun e=>hdx e.symm)];exact hx4)
  simp only [hx5,↓vcPre,↓z0,↓reduceIte,vcPost,vcStd,Nat.reduceEqDiff,reduceCtorEq,Nat.reduceAdd,Nat.reduceLeDiff,Int.reduceLT,Int.reduceLE,↓u_setN]
  have h6:=(h5.weak k2).setOther (o := .box [.int .i64 f,.int .i64 k,.sl 1 (val.map cB),.nils]) hτx hdx
  have hx6:(s5.set ix (.box [.int .i64 f,.int .i64 k,.sl 1 (val.map cB),.nils])) ix=some (.box [.int .i64 f,.int .i64 k,.sl 1 (val.map cB),.nils]):=Store.set_same _ _ _
  generalize s5.set ix (.box [.int .i64 f,.int .i64 k,.sl 1 (val.map cB),.nils])=s6 at h6 hx6 ⊢
  refine (s55 h6).Q ?_
  rintro r s7 ⟨rfl,rfl⟩
  have hi7:=h6.2.1 _ _ hTi
  have hσT:Store.sub σ s7:=Store.sub_trans hsi h6.2.1
  rcases hcc with ⟨hn,hb⟩ | ⟨c,hn,he,ha,hrr,hlt⟩
  ·subst hb
   simp only [hi7,↓vcPre,↓z0,↓reduceIte,vcPost,vcStd,Nat.reduceEqDiff,reduceCtorEq,Nat.reduceAdd,Nat.reduceLeDiff,Int.reduceLT,Int.reduceLE,↓u_setN]
   refine EndQ.to σ (.tup [.agg [.int .i64 0,.int .i64 0,.nils,.nils],.nils,.bool false]) ?_ (z6 hσT hi) ⟨rfl,?_⟩
   ·show Env.res [(2,AV.ptr i 0),(3,AV.nils),(4,AV.bool false)] _ [RS.c 2 4 true,RS.t 3,RS.t 4]=_
    simp only [Store.set_same,↓vcPre,↓z0,↓reduceIte,vcPost,vcStd,Nat.reduceEqDiff,reduceCtorEq,Nat.reduceAdd,Nat.reduceLeDiff,Int.reduceLT,Int.reduceLE,↓u_setN]
   ·rw [hn]
  ·simp only [Prod.mk.injEq] at he
   obtain ⟨rfl,rfl,rfl,rfl,rfl,rfl⟩:=he
   simp only [hlen,↓vcPre,↓z0,↓reduceIte,vcPost,vcStd,Nat.reduceEqDiff,reduceCtorEq,Nat.reduceAdd,Nat.reduceLeDiff,Int.reduceLT,Int.reduceLE,↓u_setN]
   refine (s54 h6).Q ?_
   rintro r s8 ⟨rfl,rfl⟩
   simp only [Bool.false_eq_true,if_false]
   simp only [↓vcPre,↓z0,↓reduceIte,vcPost,vcStd,Nat.reduceEqDiff,reduceCtorEq,Nat.reduceAdd,Nat.reduceLeDiff,Int.reduceLT,Int.reduceLE,↓u_setN]
   have ew:IntKind.i64.wrap ((B.length:Int) - (c.rest.length:Int))=((B.length - c.rest.length:Nat):Int):=by rw [za (by unfold I64;omega)];omega
   rw [ew]
   obtain ⟨av,hav,hra⟩:=hr0.slice (lo:=0) (hi:=B.length - c.rest.length) (by omega) (by simp)
   obtain ⟨rv,hrv,hrr2⟩:=hr0.sliceL (lo:=B.length - c.rest.length) (by simp)
   have hav':pSlice 1 v 0 (some ((B.length - c.rest.length:Nat):Int))=some av:=hav
   rw [List.drop_zero,←List.map_take,←ha] at hra
   rw [←List.map_drop,←hrr] at hrr2
   rw [hav',y7]
   have hat:=hra.isTup
   have hrt:=hrr2.isTup
   simp only [hx6,hat.1,hat.2,hrv,hTx,hi7,↓vcPre,↓z0,↓reduceIte,vcPost,vcStd,Nat.reduceEqDiff,reduceCtorEq,Nat.reduceAdd,Nat.reduceLeDiff,Int.reduceLT,Int.reduceLE,↓u_setN]
   refine EndQ.to σ (.tup [.agg [.int .i64 c.fl,.int .i64 c.kind,.sl 1 (c.val.map cB),av],rv,.bool true]) ?_ (z6 (z6 hσT (zi hsi hτx)) hi) ⟨rfl,?_⟩
   ·show Env.res [(2,AV.ptr i 0),(3,rv),(4,AV.bool true)] _ [RS.c 2 4 true,RS.t 3,RS.t 4]=_
    simp only [Store.set_same,↓vcPre,↓z0,↓reduceIte,vcPost,vcStd,Nat.reduceEqDiff,reduceCtorEq,Nat.reduceAdd,Nat.reduceLeDiff,Int.reduceLT,Int.reduceLE,↓u_setN]
   ·rw [hn];exact ⟨av,rv,rfl,hra,hrr2⟩
 refine ⟨fun g => ?_,fun g => ?_⟩
 ·rw [show (if andI f 16=0 then numM 1 R2 b2 else numM 2 R2 b2)=numM 2 R2 b2 from if_neg g] at hch
  obtain ⟨k1,k2⟩:=h3.base
  refine (s53 k1 (by omega) n2.1).Q ?_
  have n3:=uq (k:=2) (b:=b2) n2.1
  rintro r s4 ⟨rfl,h4⟩
  have hx4:=h4.2.1 _ _ (by rw [Store.del_ne _ (fun e=>hdx e.symm)];exact hx3)
  simp only [↓vcPre,↓z0,↓reduceIte,vcPost,vcStd,Nat.reduceEqDiff,reduceCtorEq,Nat.reduceAdd,Nat.reduceLeDiff,Int.reduceLT,Int.reduceLE,↓u_setN]
  exact tail _ _ _ s4 n3.1 (by omega) (h4.weak k2) hx4 hch _ _
 ·rw [show (if andI f 16=0 then numM 1 R2 b2 else numM 2 R2 b2)=numM 1 R2 b2 from if_pos g] at hch
  obtain ⟨k1,k2⟩:=h3.base
  refine (s95 k1 (by omega) n2.1).Q ?_
  have n3:=uq (k:=1) (b:=b2) n2.1
  rintro r s4 ⟨rfl,h4⟩
  have hx4:=h4.2.1 _ _ (by rw [Store.del_ne _ (fun e=>hdx e.symm)];exact hx3)
  simp only [↓vcPre,↓z0,↓reduceIte,vcPost,vcStd,Nat.reduceEqDiff,reduceCtorEq,Nat.reduceAdd,Nat.reduceLeDiff,Int.reduceLT,Int.reduceLE,↓u_setN]
  exact tail _ _ _ s4 n3.1 (by omega) (h4.weak k2) hx4 hch _ _
end Go.Am
namespace Go.Am.Tsp
open Go.Proofs Go.Am.B
def t70_47:BC:=z [f 47 2 3,l 48 1 47,g 49 106 [.t 48],m 8 49] [0,3,4,8] (.seq (z [f 50 1 3,l 51 1 50] [0,3,4,8,51] (.block 1 (z [c 63 .eql 51 1,m 62 63] [0,3,4,8,51,62] (.cond (.t 62) (z [m 64 0,f 65 2 3,l 66 1 65,p 67 (.idx 1) [.t 66,.c (.int .i64 0)],l 68 1 67,u 69 (.conv .i64) 68,u 70 .nilchk 64,f 71 0 70,s 1 71 69] [0,3,4] (z [m 72 0,u 73 .nilchk 72,f 74 0 73,l 75 1 74,c 76 .gtr 75 2] [3,4,76] (.cond (.t 76) (z [f 77 3 3,l 78 1 77,g 79 68 [.c (.int .i64 6),.t 78],s 3 4 79] [4] .ret) .skip))) (z [c 81 .eql 51 2,m 80 81] [0,3,4,8,51,80] (.cond (.t 80) (z [k 9 (.bool false)] [0,3,4] (z [m 83 0,f 84 2 3,l 85 1 84,g 86 107 [.t 85],m 82 86,e 87 0 82,e 88 1 82,u 89 .nilchk 83,f 90 1 89,s 1 90 87,m 9 88] [4,9] (z [m 91 9,u 92 .not 91] [4,92] (.cond (.t 92) (z [g 93 68 [.c (.int .i64 11),.c .nils],s 3 4 93] [4] .ret) .skip)))) (z [c 95 .eql 51 3,m 94 95] [0,3,4,8,51,94] (.cond (.t 94) (z [m 96 0,m 97 8,p 98 (.idx 1) [.t 97,.c (.int .i64 0)],l 99 1 98,u 100 .nilchk 96,f 101 2 100,s 1 101 99] [0,3,4] (z [m 102 0,u 103 .nilchk 102,f 104 2 103,l 105 1 104,g 106 31 [.t 105],u 107 .not 106] [3,4,107] (.cond (.t 107) (z [f 108 3 3,l 109 1 108,g 110 68 [.c (.int .i64 8),.t 109],s 3 4 110] [4] .ret) .skip))) (z [c 112 .eql 51 4,m 111 112] [0,3,4,8,51,111] (.cond (.t 111) (.ops [m 113 0,m 114 0,m 115 8,p 116 (.idx 1) [.t 115,.c (.int .i64 0)],l 117 1 116,u 118 .nilchk 113,f 119 3 118,⟨none,none,.loud (.st 1),[.t 119,.c (.bool true)]⟩,u 120 .nilchk 114,f 121 4 120,s 1 121 117] [4]) (z [c 123 .eql 51 5,m 122 123] [0,3,4,8,51,122] (.cond (.t 122) (.ops [m 124 0,m 125 0,m 126 8,p 127 (.idx 1) [.t 126,.c (.int .i64 0)],l 128 1 127,u 129 .nilchk 124,f 130 5 129,⟨none,none,.loud (.st 1),[.t 130,.c (.bool true)]⟩,u 131 .nilchk 125,f 132 6 131,s 1 132 128] [4]) (z [c 134 .eql 51 6,m 133 134] [0,3,4,8,133] (.cond (.t 133) (.ops [m 135 0,u 136 .nilchk 135,f 137 7 136,⟨none,none,.loud (.st 1),[.t 137,.c (.bool true)]⟩] [4]) (z [m 52 0,m 53 8,u 54 .nilchk 52,f 55 8 54,s 1 55 53] [3,4,8] (z [m 56 8,u 57 .len 56,c 58 .gtr 57 32] [3,4,58] (.cond (.t 58) (z [f 59 3 3,l 60 1 59,g 61 68 [.c (.int .i64 9),.t 60],s 3 4 61] [4] .ret) .skip))))))))))))))))) (z [p 138 (.build [(.int .i64 0),(.int .i64 0),.nils] []) [],s 3 4 138] [4] .ret))
def b70:BC:=z [⟨some 3,none,.alloc (.box),[.t 1]⟩,⟨some 4,none,.alloc (.alloc [(.int .i64 0),(.int .i64 0),.nils]),[]⟩] [0,3,4] (z [f 11 1 3,l 12 1 11,g 13 69 [.t 12],m 10 13,e 14 0 10,e 15 1 10,e 16 2 10,m 5 14,m 6 15,m 7 16] [0,3,4,5,6] (.seq (.block 0 (z [f 18 0 3,l 19 1 18,c 20 .and 19 192,m 21 5,b 22 .neq 20 21,m 23 22,⟨some 24,some (23,false),.pure (.fld 0),[.t 3]⟩,⟨some 25,some (23,false),.load (.ld 1 false),[.t 24]⟩,⟨some 26,some (23,false),.pure (.bin .and),[.t 25,.c (.int .i64 32)]⟩,⟨some 27,some (23,false),.pure (.bin .neq),[.t 26,.c (.int .i64 0)]⟩,⟨some 28,some (23,false),.pure (.mov),[.t 27]⟩,⟨some 29,some (28,true),.pure (.fld 1),[.t 3]⟩,⟨some 30,some (28,true),.load (.ld 1 false),[.t 29]⟩,⟨some 31,some (28,true),.pure (.bin .neq),[.t 30,.c (.int .i64 8)]⟩,⟨some 32,some (23,false),.pick,[.t 28,.t 31,.c (.bool false)]⟩,⟨some 33,none,.pick,[.t 23,.c (.bool true),.t 32]⟩,m 17 33] [0,3,4,6,17] (.cond (.t 17) (z [f 34 3 3,l 35 1 34,g 36 68 [.c (.int .i64 4),.t 35],s 3 4 36] [4] .ret) (z [m 38 6,f 39 2 3,l 40 1 39,u 41 .len 40,g 42 105 [.t 38,.t 41],u 43 .not 42,m 37 43] [0,3,4,37] (.cond (.t 37) (z [f 44 3 3,l 45 1 44,g 46 68 [.c (.int .i64 5),.t 45],s 3 4 46] [4] .ret) .skip))))) t70_47))
def F70:Fn Tryz.prog 70:=Fn.mkX false b70 [.c 4 3 true] 139 Tryz.f70 _ Tryz.func70 (by decide) rfl Tryz.ntmps70 (by kernel_rfl) (by kernel_rfl)
end Go.Am.Tsp
namespace Go.Am
open Go.Proofs Go.Sort
theorem z39 {k:Int} (hk:wantOf k≠0):k=1∨k=2∨k=3∨k=4∨k=5∨k=6∨k=8:=by
 unfold wantOf at hk
 split at hk
 ·omega
 ·split at hk
  ·omega
  ·split at hk
   ·omega
   ·exact absurd rfl hk
theorem zae (k:Int) (hk:wantOf k≠0) (n:Nat) (hn:n≤1000000):Pur Tryz.prog 105 [.int .i64 (ofSz k),.int .i64 (n:Int)] (.bool (decide (fitsOf k n))):=by
 refine zl Tst.F105 (by simp [Tst.F105,Fn.mkX]) fun σ => ?_
 simp only [Tst.F105,Fn.mkX,Tst.b105]
 have hk':=z39 hk
 have w1:IntKind.i64.wrap (-(-1))=1:=by decide
 have w4:IntKind.i64.wrap (-(-4))=4:=by decide
 have e1:(n:Int).tmod 1=0:=by rw [Int.tmod_one]
 have e4:(n:Int).tmod 4=(n:Int) % 4:=Int.tmod_eq_emod_of_nonneg (by omega)
 rcases hk' with rfl | rfl | rfl | rfl | rfl | rfl | rfl <;> simp only [show ofSz 1=1 from rfl,show ofSz 2 = -1 from rfl,show ofSz 3=4 from rfl,show ofSz 4=4 from rfl,show ofSz 5=4 from rfl,show ofSz 6=0 from rfl,show ofSz 8 = -4 from rfl]
 ·simp only [↓vcPre,↓z0,↓reduceIte,vcPost,vcStd,Nat.reduceEqDiff,reduceCtorEq,Nat.reduceAdd,Nat.reduceLeDiff,Int.reduceLT,Int.reduceLE,↓u_setN]
  exact decide_eq_decide.2 (by unfold fitsOf;omega)
 ·simp only [↓vcPre,↓z0,↓reduceIte,vcPost,vcStd,Nat.reduceEqDiff,reduceCtorEq,Nat.reduceAdd,Nat.reduceLeDiff,Int.reduceLT,Int.reduceLE,↓u_setN]
  rw [show IntKind.i64.wrap (0 - -1)=1 by decide,e1]
  exact ⟨by decide,decide_eq_decide.2 (by unfold fitsOf;omega)⟩
 ·simp only [↓vcPre,↓z0,↓reduceIte,vcPost,vcStd,Nat.reduceEqDiff,reduceCtorEq,Nat.reduceAdd,Nat.reduceLeDiff,Int.reduceLT,Int.reduceLE,↓u_setN]
  exact decide_eq_decide.2 (by unfold fitsOf;omega)
 ·simp only [↓vcPre,↓z0,↓reduceIte,vcPost,vcStd,Nat.reduceEqDiff,reduceCtorEq,Nat.reduceAdd,Nat.reduceLeDiff,Int.reduceLT,Int.reduceLE,↓u_setN]
  exact decide_eq_decide.2 (by unfold fitsOf;omega)
 ·simp only [↓vcPre,↓z0,↓reduceIte,vcPost,vcStd,Nat.reduceEqDiff,reduceCtorEq,Nat.reduceAdd,Nat.reduceLeDiff,Int.reduceLT,Int.reduceLE,↓u_setN]
  exact decide_eq_decide.2 (by unfold fitsOf;omega)
 ·simp only [↓vcPre,↓z0,↓reduceIte,vcPost,vcStd,Nat.reduceEqDiff,reduceCtorEq,Nat.reduceAdd,Nat.reduceLeDiff,Int.reduceLT,Int.reduceLE,↓u_setN]
  exact decide_eq_decide.2 (by unfold fitsOf;omega)
 ·simp only [↓vcPre,↓z0,↓reduceIte,vcPost,vcStd,Nat.reduceEqDiff,reduceCtorEq,Nat.reduceAdd,Nat.reduceLeDiff,Int.reduceLT,Int.reduceLE,↓u_setN]
  rw [show IntKind.i64.wrap (0 - -4)=4 by decide,e4]
  exact ⟨by decide,decide_eq_decide.2 (by unfold fitsOf;omega)⟩
theorem s68 {σ:Store} {M:List Int} {v:AV} (hr:Rd 1 σ (M.map cB) v) (hM:M.length≤1000000000) (n:Int):ACalls Tryz.prog 68 [.int .i64 n,v] σ (fun r s=>s=σ∧r = .agg [.int .i64 3,.int .i64 n,.sl 1 (M.map cB)]):=by
 refine zf Tst.F68 (by simp [Tst.F68,Fn.mkX]) ?_
 simp only [Tst.F68,Fn.mkX,Tst.b68]
 simp only [↓vcPre,↓z0,↓reduceIte,vcPost,vcStd,Nat.reduceEqDiff,reduceCtorEq,Nat.reduceAdd,Nat.reduceLeDiff,Int.reduceLT,Int.reduceLE,↓u_setN]
 refine AllocQ.i0 fun i hi => ?_
 simp only [↓vcPre,↓z0,↓reduceIte,vcPost,vcStd,Nat.reduceEqDiff,reduceCtorEq,Nat.reduceAdd,Nat.reduceLeDiff,Int.reduceLT,Int.reduceLE,↓u_setN]
 have hsi:=Store.sub_set σ i (.box [.int .i64 0,.int .i64 0,.nils]) hi
 refine (s93 (hr.mono hsi) hM).Q ?_
 rintro r s ⟨rfl,rfl⟩
 simp only [↓vcPre,↓z0,↓reduceIte,vcPost,vcStd,Nat.reduceEqDiff,reduceCtorEq,Nat.reduceAdd,Nat.reduceLeDiff,Int.reduceLT,Int.reduceLE,↓u_setN]
 refine EndQ.to σ _ ?_ (z6 hsi hi) ⟨rfl,rfl⟩
 show Env.res [(4,AV.ptr i 0)] _ [RS.c 4 3 true]=_
 simp only [↓vcPre,↓z0,↓reduceIte,vcPost,vcStd,Nat.reduceEqDiff,reduceCtorEq,Nat.reduceAdd,Nat.reduceLeDiff,Int.reduceLT,Int.reduceLE,↓u_setN]
def AI (τ:Store) (id:Nat) (a:At) (s:Store):Prop:=τ id=none∧Store.sub τ s∧∃ pv cv,s id=some (.box [.int .i64 a.org,pv,.int .u32 a.nxt,.bool a.hm,.int .u32 a.med,.bool a.hp,.int .u32 a.prf,.bool a.atm,cv]) ∧
 (pv = .sl 2 (a.path.map Seg.c)∨pv = .nils∧a.path=[])∧(cv = .sl 1 (a.cms.map cU)∨cv = .nils∧a.cms=[])
def noteV (n:Nt):AV := .agg [.int .i64 3,.int .i64 n.1,.sl 1 (n.2.map cB)]
def note0:AV := .agg [.int .i64 0,.int .i64 0,.nils]
set_option maxHeartbeats 1000000 in
theorem s70 {τ s:Store} {id:Nat} {a:At} (h:AI τ id a s) (c:Ch) (hw:wantOf c.kind≠0) (hv:c.val.length≤1000000) (hu:U8s c.val) (ha:c.all.length≤1000000) {av:AV} (hav:Rd 1 τ (c.all.map cB) av) :
 ACalls Tryz.prog 70 [.ptr id 0,.agg [.int .i64 c.fl,.int .i64 c.kind,.sl 1 (c.val.map cB),av]] s (fun r s'=>(∀ q o,q≠id→s q=some o→s' q=some o)∧match stepA c a with | .ok a'=>r=note0∧AI τ id a' s' | .error n=>r=noteV n∧Store.sub τ s'):=by
 obtain ⟨hτ,hs,pv,cv,hid,hp,hc⟩:=h
 refine zf Tsp.F70 (by simp [Tsp.F70,Fn.mkX]) ?_
 simp only [Tsp.F70,Fn.mkX,Tsp.b70]
 simp only [↓vcPre,↓z0,↓reduceIte,vcPost,vcStd,Nat.reduceEqDiff,reduceCtorEq,Nat.reduceAdd,Nat.reduceLeDiff,Int.reduceLT,Int.reduceLE,↓u_setN]
 refine AllocQ.i0 fun i hi => ?_
 simp only [↓vcPre,↓z0,↓reduceIte,vcPost,vcStd,Nat.reduceEqDiff,reduceCtorEq,Nat.reduceAdd,Nat.reduceLeDiff,Int.reduceLT,Int.reduceLE,↓u_setN]
 refine AllocQ.i1 fun j hj1 hj2 hj => ?_
 simp only [hj1,hj2,↓vcPre,↓z0,↓reduceIte,vcPost,vcStd,Nat.reduceEqDiff,reduceCtorEq,Nat.reduceAdd,Nat.reduceLeDiff,Int.reduceLT,Int.reduceLE,↓u_setN]
 have hji:¬ id=i:=fun e=>by rw [←e,hid] at hi;cases hi
 have hjj:¬ id=j:=fun e=>by rw [←e,hid] at hj;cases hj
 have hij:¬ i=id:=fun e=>hji e.symm
 have hjd:¬ j=id:=fun e=>hjj e.symm
 have hsT:=zk (o:=Obj.box [.int .i64 c.fl,.int .i64 c.kind,.sl 1 (c.val.map cB),av]) (p:=Obj.box [.int .i64 0,.int .i64 0,.nils]) hi hj hj1
 have hTi:((s.set i (.box [.int .i64 c.fl,.int .i64 c.kind,.sl 1 (c.val.map cB),av])).set j (.box [.int .i64 0,.int .i64 0,.nils])) i=some (.box [.int .i64 c.fl,.int .i64 c.kind,.sl 1 (c.val.map cB),av]):=by rw [Store.set_ne _ _ hj2,Store.set_same]
 have hTj:((s.set i (.box [.int .i64 c.fl,.int .i64 c.kind,.sl 1 (c.val.map cB),av])).set j (.box [.int .i64 0,.int .i64 0,.nils])) j=some (.box [.int .i64 0,.int .i64 0,.nils]):=Store.set_same _ _ _
 generalize (s.set i (.box [.int .i64 c.fl,.int .i64 c.kind,.sl 1 (c.val.map cB),av])).set j (.box [.int .i64 0,.int .i64 0,.nils])=T at hsT hTi hTj ⊢
 have hTd:=hsT _ _ hid
 have hτT:=Store.sub_trans hs hsT
 have hτi:τ i=none:=zi hs hi
 have hτj:τ j=none:=zi hs hj
 have bad:∀ (t:Store) (n:Nt),(∀ q o,q≠id→s q=some o→t q=some o)→Store.sub τ t→stepA c a = .error n → @EndQ [(4,.ptr j 0)] (t.set j (.box [.int .i64 3,.int .i64 n.1,.sl 1 (n.2.map cB)])) ⟨Tsp.F70.slots,fun r s'=>(∀ q o,q≠id→s q=some o→s' q=some o)∧match stepA c a with | .ok a'=>r=note0∧AI τ id a' s' | .error n=>r=noteV n∧Store.sub τ s'⟩:=by
  intro t n hkp ht he
  rw [he]
  have hkj:∀ (w:Obj) q o,q≠id→s q=some o→(t.set j w) q=some o:=fun w q o h1 h2=>by rw [Store.set_ne _ _ (fun e=>by rw [e,hj] at h2;cases h2)];exact hkp q o h1 h2
  have ht':Store.sub τ (t.set j (.box [.int .i64 3,.int .i64 n.1,.sl 1 (n.2.map cB)])):=z6 ht hτj
  refine EndQ.to _ (noteV n) ?_ (Store.sub_refl _) ⟨hkj _,rfl,ht'⟩
  show Env.res [(4,AV.ptr j 0)] _ [RS.c 4 3 true]=_
  simp only [↓vcPre,↓z0,↓reduceIte,vcPost,vcStd,Nat.reduceEqDiff,reduceCtorEq,Nat.reduceAdd,Nat.reduceLeDiff,Int.reduceLT,Int.reduceLE,↓u_setN]
  rfl
 have good:∀ (t:Store) (a':At) (pv' cv':AV),(∀ q o,q≠id→s q=some o→t q=some o)→stepA c a = .ok a'→Store.sub τ t→t id=some (.box [.int .i64 a'.org,pv',.int .u32 a'.nxt,.bool a'.hm,.int .u32 a'.med,.bool a'.hp,.int .u32 a'.prf,.bool a'.atm,cv']) →
  (pv' = .sl 2 (a'.path.map Seg.c)∨pv' = .nils∧a'.path=[])→(cv' = .sl 1 (a'.cms.map cU)∨cv' = .nils∧a'.cms=[]) → @EndQ [(4,.ptr j 0)] (t.set j (.box [.int .i64 0,.int .i64 0,.nils])) ⟨Tsp.F70.slots,fun r s'=>(∀ q o,q≠id→s q=some o→s' q=some o)∧match stepA c a with | .ok a'=>r=note0∧AI τ id a' s' | .error n=>r=noteV n∧Store.sub τ s'⟩:=by
  intro t a' pv' cv' hkp he ht h1 h2 h3
  rw [he]
  have hkj:∀ (w:Obj) q o,q≠id→s q=some o→(t.set j w) q=some o:=fun w q o h1 h2=>by rw [Store.set_ne _ _ (fun e=>by rw [e,hj] at h2;cases h2)];exact hkp q o h1 h2
  have ht':Store.sub τ (t.set j (.box [.int .i64 0,.int .i64 0,.nils])):=z6 ht hτj
  refine EndQ.to _ note0 ?_ (Store.sub_refl _) ⟨hkj _,rfl,hτ,ht',pv',cv',by rw [Store.set_ne _ _ hjj];exact h1,h2,h3⟩
  show Env.res [(4,AV.ptr j 0)] _ [RS.c 4 3 true]=_
  simp only [↓vcPre,↓z0,↓reduceIte,vcPost,vcStd,Nat.reduceEqDiff,reduceCtorEq,Nat.reduceAdd,Nat.reduceLeDiff,Int.reduceLT,Int.reduceLE,↓u_setN]
  rfl
 have havT:=hav.mono hτT
 have kT:∀ q o,q≠id→s q=some o→T q=some o:=fun q o _ h=>hsT _ _ h
 have kT1:∀ (w:Obj) q o,q≠id→s q=some o→(T.set id w) q=some o:=fun w q o h1 h=>by rw [Store.set_ne _ _ h1];exact hsT _ _ h
 have kT2:∀ (w w':Obj) q o,q≠id→s q=some o→((T.set id w).set id w') q=some o:=fun w w' q o h1 h=>by rw [Store.set_ne _ _ h1];exact kT1 w q o h1 h
 refine (c69 c.kind).Q ?_
 simp only [hTi,hTj,↓vcPre,↓z0,↓reduceIte,vcPost,vcStd,Nat.reduceEqDiff,reduceCtorEq,Nat.reduceAdd,Nat.reduceLeDiff,Int.reduceLT,Int.reduceLE,↓u_setN]
 have hna:=havT
 have e1:andI c.fl 192=bitInt .and .i64 c.fl 192:=rfl
 have e2:andI c.fl 32=bitInt .and .i64 c.fl 32:=rfl
 have note:∀ (x:Int),stepA c a = .error (x,c.all)→ACalls Tryz.prog 68 [.int .i64 x,av] T (fun r s'=>s'=T∧r = .agg [.int .i64 3,.int .i64 x,.sl 1 (c.all.map cB)]):=fun x _=>s68 havT (by omega) x
 have rest:¬ (andI c.fl 192≠wantOf c.kind∨andI c.fl 32≠0∧c.kind≠8)→fitsOf c.kind c.val.length→bwp Tryz.prog Tsp.t70_47 [(0,.ptr id 0),(3,.ptr i 0),(4,.ptr j 0)] T (fun _ _=>False) (fun e tt => @EndQ e tt ⟨Tsp.F70.slots,fun r s'=>(∀ q o,q≠id→s q=some o→s' q=some o)∧match stepA c a with | .ok a'=>r=note0∧AI τ id a' s' | .error n=>r=noteV n∧Store.sub τ s'⟩) (fun _ _ _=>False):=by
  intro hb hf
  have hst:stepA c a=valA c a:=by unfold stepA;rw [if_neg hw,if_neg hb,if_neg (not_not_intro hf)]
  simp only [Tsp.t70_47]
  simp only [hTi,↓vcPre,↓z0,↓reduceIte,vcPost,vcStd,Nat.reduceEqDiff,reduceCtorEq,Nat.reduceAdd,Nat.reduceLeDiff,Int.reduceLT,Int.reduceLE,↓u_setN]
  refine (zeu (by omega) hu T).Q ?_
  rintro r s' ⟨rfl,l,rfl,hl⟩
  have one:c.val.length=4→∃ w,l=[w]∧(words 1 c.val).headD 0=w:=fun h4=>by
   have e:=hl (by omega)
   rw [show c.val.length / 4=1 by omega] at e
   have h1:=x9 1 c.val (by omega)
   rw [←e] at h1
   obtain ⟨w,hw⟩:=List.length_eq_one_iff.1 h1
   exact ⟨w,hw,by rw [←e,hw];rfl⟩
  have tk1:∀ (k:IntKind) (x:Int),List.take 1 [AV.int k x]=[AV.int k x]:=fun _ _=>rfl
  have d21:((2:Int)=1)=False:=by simp
  have d31:((3:Int)=1)=False:=by simp
  have d32:((3:Int)=2)=False:=by simp
  have d41:((4:Int)=1)=False:=by simp
  have d42:((4:Int)=2)=False:=by simp
  have d43:((4:Int)=3)=False:=by simp
  have d51:((5:Int)=1)=False:=by simp
  have d52:((5:Int)=2)=False:=by simp
  have d53:((5:Int)=3)=False:=by simp
  have d54:((5:Int)=4)=False:=by simp
  have d61:((6:Int)=1)=False:=by simp
  have d62:((6:Int)=2)=False:=by simp
  have d63:((6:Int)=3)=False:=by simp
  have d64:((6:Int)=4)=False:=by simp
  have d65:((6:Int)=5)=False:=by simp
  have d81:((8:Int)=1)=False:=by simp
  have d82:((8:Int)=2)=False:=by simp
  have d83:((8:Int)=3)=False:=by simp
  have d84:((8:Int)=4)=False:=by simp
  have d85:((8:Int)=5)=False:=by simp
  have d86:((8:Int)=6)=False:=by simp
  have nt:∀ (t:Store) (x:Int),Store.sub τ t→ACalls Tryz.prog 68 [.int .i64 x,av] t (fun r s'=>s'=t∧r = .agg [.int .i64 3,.int .i64 x,.sl 1 (c.all.map cB)]):=fun t x h=>s68 (hav.mono h) (by omega) x
  rcases z39 hw with hk | hk | hk | hk | hk | hk | hk
  ·have hl1:c.val.length=1:=hf.1 hk
   obtain ⟨x,hx⟩:=List.length_eq_one_iff.1 hl1
   have hbx:=hu x (by simp [hx])
   have hva:valA c a=if 2<x then .error (6,c.all) else .ok { a with org:=x }:=by
    unfold valA;rw [if_pos hk,hx];rfl
   have wx:IntKind.i64.wrap x=x:=za (by unfold I64;omega)
   simp only [hk,hTi,hTj,hTd,hij,hjd,hji,hjj,hj1,hj2,hx,List.map_cons,List.map_nil,cB,List.getElem_cons_zero,Int.toNat_zero,tk1,↓vcPre,↓z0,↓reduceIte,vcPost,vcStd,Nat.reduceEqDiff,reduceCtorEq,Nat.reduceAdd,Nat.reduceLeDiff,Int.reduceLT,Int.reduceLE,↓u_setN]
   rw [wx]
   have hs1:=z6 (o:=Obj.box [.int .i64 x,pv,.int .u32 a.nxt,.bool a.hm,.int .u32 a.med,.bool a.hp,.int .u32 a.prf,.bool a.atm,cv]) hτT hτ
   refine ⟨fun h2 => ?_,fun h2 => ?_⟩
   ·refine (nt _ 6 hs1).Q ?_
    rintro r t ⟨rfl,rfl⟩
    simp only [hTi,hTj,hTd,hij,hjd,hji,hjj,hj1,hj2,↓vcPre,↓z0,↓reduceIte,vcPost,vcStd,Nat.reduceEqDiff,reduceCtorEq,Nat.reduceAdd,Nat.reduceLeDiff,Int.reduceLT,Int.reduceLE,↓u_setN]
    exact bad _ (6,c.all) (kT1 _) hs1 (by rw [hst,hva,if_pos h2])
   ·exact good _ { a with org:=x } pv cv (kT1 _) (by rw [hst,hva,if_neg h2]) hs1 (Store.set_same _ _ _) hp hc
  ·have hva:valA c a=match decPath c.val with | some l => .ok { a with path:=l } | none => .error (11,[]):=by
    unfold valA;rw [if_neg (by omega),if_pos hk];rfl
   simp only [hk,hTi,hTj,hTd,hij,hjd,hji,hjj,hj1,hj2,d21,d31,d32,d41,d42,d43,d51,d52,d53,d54,d61,d62,d63,d64,d65,d81,d82,d83,d84,d85,d86,↓vcPre,↓z0,↓reduceIte,vcPost,vcStd,Nat.reduceEqDiff,reduceCtorEq,Nat.reduceAdd,Nat.reduceLeDiff,Int.reduceLT,Int.reduceLE,↓u_setN]
   refine (zed hv hu).Q ?_
   cases hd:decPath c.val with
   | some l =>
     rw [hd] at hva
     simp only [pathR]
     simp only [hTi,hTj,hTd,hij,hjd,hji,hjj,hj1,hj2,AV.cells,↓vcPre,↓z0,↓reduceIte,vcPost,vcStd,Nat.reduceEqDiff,reduceCtorEq,Nat.reduceAdd,Nat.reduceLeDiff,Int.reduceLT,Int.reduceLE,↓u_setN]
     exact good _ { a with path:=l } (.sl 2 (l.map Seg.c)) cv (kT1 _) (hst.trans hva) (z6 hτT hτ) (Store.set_same _ _ _) (.inl rfl) hc
   | none =>
     rw [hd] at hva
     simp only [pathR]
     simp only [hTi,hTj,hTd,hij,hjd,hji,hjj,hj1,hj2,AV.cells,↓vcPre,↓z0,↓reduceIte,vcPost,vcStd,Nat.reduceEqDiff,reduceCtorEq,Nat.reduceAdd,Nat.reduceLeDiff,Int.reduceLT,Int.reduceLE,↓u_setN]
     have hs1:=z6 (o:=Obj.box [.int .i64 a.org,.sl 2 [],.int .u32 a.nxt,.bool a.hm,.int .u32 a.med,.bool a.hp,.int .u32 a.prf,.bool a.atm,cv]) hτT hτ
     refine (s68 (M:=[]) Rd.nils (by simp) 11).Q ?_
     rintro r t ⟨rfl,rfl⟩
     simp only [hTi,hTj,hTd,hij,hjd,hji,hjj,hj1,hj2,↓vcPre,↓z0,↓reduceIte,vcPost,vcStd,Nat.reduceEqDiff,reduceCtorEq,Nat.reduceAdd,Nat.reduceLeDiff,Int.reduceLT,Int.reduceLE,↓u_setN]
     exact bad _ (11,[]) (kT1 _) hs1 (hst.trans hva)
  ·obtain ⟨w,rfl,hw1⟩:=one (hf.2.1 (by omega))
   have hva:valA c a=if goodN w then .ok { a with nxt:=w } else .error (8,c.all):=by
    unfold valA;rw [if_neg (by omega),if_neg (by omega),if_pos hk,hw1]
   simp only [hk,hTi,hTj,hTd,hij,hjd,hji,hjj,hj1,hj2,List.map_cons,List.map_nil,cU,List.getElem_cons_zero,Int.toNat_zero,tk1,d21,d31,d32,d41,d42,d43,d51,d52,d53,d54,d61,d62,d63,d64,d65,d81,d82,d83,d84,d85,d86,↓vcPre,↓z0,↓reduceIte,vcPost,vcStd,Nat.reduceEqDiff,reduceCtorEq,Nat.reduceAdd,Nat.reduceLeDiff,Int.reduceLT,Int.reduceLE,↓u_setN]
   have hs1:=z6 (o:=Obj.box [.int .i64 a.org,pv,.int .u32 w,.bool a.hm,.int .u32 a.med,.bool a.hp,.int .u32 a.prf,.bool a.atm,cv]) hτT hτ
   refine (c31 w).Q ?_
   by_cases hg:goodN w
   ·rw [decide_eq_true hg]
    simp only [hTi,hTj,hTd,hij,hjd,hji,hjj,hj1,hj2,↓vcPre,↓z0,↓reduceIte,vcPost,vcStd,Nat.reduceEqDiff,reduceCtorEq,Nat.reduceAdd,Nat.reduceLeDiff,Int.reduceLT,Int.reduceLE,↓u_setN]
    exact good _ { a with nxt:=w } pv cv (kT1 _) (by rw [hst,hva,if_pos hg]) hs1 (Store.set_same _ _ _) hp hc
   ·rw [decide_eq_false hg]
    simp only [hTi,hTj,hTd,hij,hjd,hji,hjj,hj1,hj2,↓vcPre,↓z0,↓reduceIte,vcPost,vcStd,Nat.reduceEqDiff,reduceCtorEq,Nat.reduceAdd,Nat.reduceLeDiff,Int.reduceLT,Int.reduceLE,↓u_setN]
    refine (nt _ 8 hs1).Q ?_
    rintro r t ⟨rfl,rfl⟩
    simp only [hTi,hTj,hTd,hij,hjd,hji,hjj,hj1,hj2,↓vcPre,↓z0,↓reduceIte,vcPost,vcStd,Nat.reduceEqDiff,reduceCtorEq,Nat.reduceAdd,Nat.reduceLeDiff,Int.reduceLT,Int.reduceLE,↓u_setN]
    exact bad _ (8,c.all) (kT1 _) hs1 (by rw [hst,hva,if_neg hg])
  ·obtain ⟨w,rfl,hw1⟩:=one (hf.2.1 (by omega))
   have hva:valA c a = .ok { a with hm:=true,med:=w }:=by
    unfold valA;rw [if_neg (by omega),if_neg (by omega),if_neg (by omega),if_pos hk,hw1]
   simp only [hk,hTi,hTj,hTd,hij,hjd,hji,hjj,hj1,hj2,List.map_cons,List.map_nil,cU,List.getElem_cons_zero,Int.toNat_zero,tk1,d21,d31,d32,d41,d42,d43,d51,d52,d53,d54,d61,d62,d63,d64,d65,d81,d82,d83,d84,d85,d86,↓vcPre,↓z0,↓reduceIte,vcPost,vcStd,Nat.reduceEqDiff,reduceCtorEq,Nat.reduceAdd,Nat.reduceLeDiff,Int.reduceLT,Int.reduceLE,↓u_setN]
   exact good _ { a with hm:=true,med:=w } pv cv (kT2 _ _) (hst.trans hva) (z6 (z6 hτT hτ) hτ) (Store.set_same _ _ _) hp hc
  ·obtain ⟨w,rfl,hw1⟩:=one (hf.2.1 (by omega))
   have hva:valA c a = .ok { a with hp:=true,prf:=w }:=by
    unfold valA;rw [if_neg (by omega),if_neg (by omega),if_neg (by omega),if_neg (by omega),if_pos hk,hw1]
   simp only [hk,hTi,hTj,hTd,hij,hjd,hji,hjj,hj1,hj2,List.map_cons,List.map_nil,cU,List.getElem_cons_zero,Int.toNat_zero,tk1,d21,d31,d32,d41,d42,d43,d51,d52,d53,d54,d61,d62,d63,d64,d65,d81,d82,d83,d84,d85,d86,↓vcPre,↓z0,↓reduceIte,vcPost,vcStd,Nat.reduceEqDiff,reduceCtorEq,Nat.reduceAdd,Nat.reduceLeDiff,Int.reduceLT,Int.reduceLE,↓u_setN]
   exact good _ { a with hp:=true,prf:=w } pv cv (kT2 _ _) (hst.trans hva) (z6 (z6 hτT hτ) hτ) (Store.set_same _ _ _) hp hc
  ·have hva:valA c a = .ok { a with atm:=true }:=by
    unfold valA;rw [if_neg (by omega),if_neg (by omega),if_neg (by omega),if_neg (by omega),if_neg (by omega),if_pos hk]
   simp only [hk,hTi,hTj,hTd,hij,hjd,hji,hjj,hj1,hj2,d21,d31,d32,d41,d42,d43,d51,d52,d53,d54,d61,d62,d63,d64,d65,d81,d82,d83,d84,d85,d86,↓vcPre,↓z0,↓reduceIte,vcPost,vcStd,Nat.reduceEqDiff,reduceCtorEq,Nat.reduceAdd,Nat.reduceLeDiff,Int.reduceLT,Int.reduceLE,↓u_setN]
   exact good _ { a with atm:=true } pv cv (kT1 _) (hst.trans hva) (z6 hτT hτ) (Store.set_same _ _ _) hp hc
  ·simp only [hk,hTi,hTj,hTd,hij,hjd,hji,hjj,hj1,hj2,d21,d31,d32,d41,d42,d43,d51,d52,d53,d54,d61,d62,d63,d64,d65,d81,d82,d83,d84,d85,d86,↓vcPre,↓z0,↓reduceIte,vcPost,vcStd,Nat.reduceEqDiff,reduceCtorEq,Nat.reduceAdd,Nat.reduceLeDiff,Int.reduceLT,Int.reduceLE,↓u_setN]
   have hwl:l=words (c.val.length / 4) c.val:=hl (hf.2.2.2 hk)
   have hll:l.length=c.val.length / 4:=by rw [hwl];exact x9 _ _ (by omega)
   have hva:valA c a=if 32<l.length then .error (9,c.all) else .ok { a with cms:=l }:=by
    unfold valA;rw [if_neg (by omega),if_neg (by omega),if_neg (by omega),if_neg (by omega),if_neg (by omega),if_neg (by omega),hll,←hwl]
   have hs1:=z6 (o:=Obj.box [.int .i64 a.org,pv,.int .u32 a.nxt,.bool a.hm,.int .u32 a.med,.bool a.hp,.int .u32 a.prf,.bool a.atm,.sl 1 (l.map cU)]) hτT hτ
   refine ⟨fun h2 => ?_,fun h2 => ?_⟩
   ·refine (nt _ 9 hs1).Q ?_
    rintro r t ⟨rfl,rfl⟩
    simp only [hTi,hTj,hTd,hij,hjd,hji,hjj,hj1,hj2,↓vcPre,↓z0,↓reduceIte,vcPost,vcStd,Nat.reduceEqDiff,reduceCtorEq,Nat.reduceAdd,Nat.reduceLeDiff,Int.reduceLT,Int.reduceLE,↓u_setN]
    exact bad _ (9,c.all) (kT1 _) hs1 (by rw [hst,hva,if_pos (by omega)])
   ·exact good _ { a with cms:=l } pv (.sl 1 (l.map cU)) (kT1 _) (by rw [hst,hva,if_neg (by omega)]) hs1 (Store.set_same _ _ _) hp (.inl rfl)
 have f4:(andI c.fl 192≠wantOf c.kind∨andI c.fl 32≠0∧c.kind≠8)→stepA c a = .error (4,c.all):=fun h=>by unfold stepA;rw [if_neg hw,if_pos h]
 refine ⟨fun c1=>⟨fun c2=>⟨fun c3 => ?_,fun c3 => ?_⟩,fun c2 => ?_⟩,fun c1 => ?_⟩
 ·refine (note 4 (f4 (by rw [e1,e2];omega))).Q ?_
  rintro r s' ⟨rfl,rfl⟩
  simp only [hTj,↓vcPre,↓z0,↓reduceIte,vcPost,vcStd,Nat.reduceEqDiff,reduceCtorEq,Nat.reduceAdd,Nat.reduceLeDiff,Int.reduceLT,Int.reduceLE,↓u_setN]
  exact bad _ (4,c.all) kT hτT (f4 (by rw [e1,e2];omega))
 ·refine (zae c.kind hw c.val.length hv).Q ?_
  have hb:¬ (andI c.fl 192≠wantOf c.kind∨andI c.fl 32≠0∧c.kind≠8):=by rw [e1,e2];omega
  by_cases hf:fitsOf c.kind c.val.length
  ·rw [decide_eq_true hf]
   simp only [↓vcPre,↓z0,↓reduceIte,vcPost,vcStd,Nat.reduceEqDiff,reduceCtorEq,Nat.reduceAdd,Nat.reduceLeDiff,Int.reduceLT,Int.reduceLE,↓u_setN]
   exact rest hb hf
  ·have h5:stepA c a = .error (5,c.all):=by unfold stepA;rw [if_neg hw,if_neg hb,if_pos hf]
   rw [decide_eq_false hf]
   simp only [hTi,↓vcPre,↓z0,↓reduceIte,vcPost,vcStd,Nat.reduceEqDiff,reduceCtorEq,Nat.reduceAdd,Nat.reduceLeDiff,Int.reduceLT,Int.reduceLE,↓u_setN]
   refine (note 5 h5).Q ?_
   rintro r s' ⟨rfl,rfl⟩
   simp only [hTj,↓vcPre,↓z0,↓reduceIte,vcPost,vcStd,Nat.reduceEqDiff,reduceCtorEq,Nat.reduceAdd,Nat.reduceLeDiff,Int.reduceLT,Int.reduceLE,↓u_setN]
   exact bad _ (5,c.all) kT hτT h5
 ·refine (zae c.kind hw c.val.length hv).Q ?_
  have hb:¬ (andI c.fl 192≠wantOf c.kind∨andI c.fl 32≠0∧c.kind≠8):=by rw [e1,e2];omega
  by_cases hf:fitsOf c.kind c.val.length
  ·rw [decide_eq_true hf]
   simp only [↓vcPre,↓z0,↓reduceIte,vcPost,vcStd,Nat.reduceEqDiff,reduceCtorEq,Nat.reduceAdd,Nat.reduceLeDiff,Int.reduceLT,Int.reduceLE,↓u_setN]
   exact rest hb hf
  ·have h5:stepA c a = .error (5,c.all):=by unfold stepA;rw [if_neg hw,if_neg hb,if_pos hf]
   rw [decide_eq_false hf]
   simp only [hTi,↓vcPre,↓z0,↓reduceIte,vcPost,vcStd,Nat.reduceEqDiff,reduceCtorEq,Nat.reduceAdd,Nat.reduceLeDiff,Int.reduceLT,Int.reduceLE,↓u_setN]
   refine (note 5 h5).Q ?_
   rintro r s' ⟨rfl,rfl⟩
   simp only [hTj,↓vcPre,↓z0,↓reduceIte,vcPost,vcStd,Nat.reduceEqDiff,reduceCtorEq,Nat.reduceAdd,Nat.reduceLeDiff,Int.reduceLT,Int.reduceLE,↓u_setN]
   exact bad _ (5,c.all) kT hτT h5
 ·refine (note 4 (f4 (by rw [e1,e2];omega))).Q ?_
  rintro r s' ⟨rfl,rfl⟩
  simp only [hTj,↓vcPre,↓z0,↓reduceIte,vcPost,vcStd,Nat.reduceEqDiff,reduceCtorEq,Nat.reduceAdd,Nat.reduceLeDiff,Int.reduceLT,Int.reduceLE,↓u_setN]
  exact bad _ (4,c.all) kT hτT (f4 (by rw [e1,e2];omega))
end Go.Am
namespace Go.Am
open Go.Proofs Go.Sort
def NI:SN:=⟨133,137,156,134,140,141,164,160,159,136,138,135,108,139,71,157,158,109⟩
theorem zcj (h1:∀ x y:Int,Pur Tryz.prog 139 [.int .i64 x,.int .i64 y] (.bool (decide (cfU x y<0)))) (h2:∀ (x:Nat) (hx:x<18446744073709551616),Pur Tryz.prog 109 [.int .u64 x] (.int .i64 (bitsLen x:Nat)))
 (h3:∀ (n:Nat) (hn:n<4611686018427387904),Pur Tryz.prog 157 [.int .i64 n] (.int .u64 (1 <<<bitsLen n:Nat)))
 (h4:∀ (X:Nat) (hX:X<18446744073709551616) (σ:Store) (i:Nat) (hi:σ i=some (.box [.int .u64 X])),ACalls Tryz.prog 158 [.ptr i 0] σ (fun r s=>r = .int .u64 (xorNextN X:Nat)∧s=σ.set i (.box [.int .u64 (xorNextN X:Nat)]))):SH Tryz.prog NI .i64 where
 ins:=zr 49 Tryz.f133 _ Tryz.func133 (by decide) rfl Tryz.ntmps133 (by kernel_rfl) (by kernel_rfl) (by decide)
 rev:=zr 32 Tryz.f137 _ Tryz.func137 (by decide) rfl Tryz.ntmps137 (by kernel_rfl) (by kernel_rfl) (by decide)
 sift:=zr 76 Tryz.f156 _ Tryz.func156 (by decide) rfl Tryz.ntmps156 (by kernel_rfl) (by kernel_rfl) (by decide)
 heap:=zr 56 Tryz.f134 _ Tryz.func134 (by decide) rfl Tryz.ntmps134 (by kernel_rfl) (by kernel_rfl) (by decide)
 parteq:=zr 84 Tryz.f140 _ Tryz.func140 (by decide) rfl Tryz.ntmps140 (by kernel_rfl) (by kernel_rfl) (by decide)
 part:=zr 168 Tryz.f141 _ Tryz.func141 (by decide) rfl Tryz.ntmps141 (by kernel_rfl) (by kernel_rfl) (by decide)
 ord2:=zr 28 Tryz.f164 _ Tryz.func164 (by decide) rfl Tryz.ntmps164 (by kernel_rfl) (by kernel_rfl) (by decide)
 med:=zr 36 Tryz.f160 _ Tryz.func160 (by decide) rfl Tryz.ntmps160 (by kernel_rfl) (by kernel_rfl) (by decide)
 medadj:=zr 15 Tryz.f159 _ Tryz.func159 (by decide) rfl Tryz.ntmps159 (by kernel_rfl) (by kernel_rfl) (by decide)
 piv:=zr 57 Tryz.f136 _ Tryz.func136 (by decide) rfl Tryz.ntmps136 (by kernel_rfl) (by kernel_rfl) (by decide)
 partins:=zr 133 Tryz.f138 _ Tryz.func138 (by decide) rfl Tryz.ntmps138 (by kernel_rfl) (by kernel_rfl) (by decide)
 brk:=zr 65 Tryz.f135 _ Tryz.func135 (by decide) rfl Tryz.ntmps135 (by kernel_rfl) (by kernel_rfl) (by decide)
 pdq:=zr 134 Tryz.f108 _ Tryz.func108 (by decide) rfl Tryz.ntmps108 (by kernel_rfl) (by kernel_rfl) (by decide)
 sort:=zr 11 Tryz.f71 _ Tryz.func71 (by decide) rfl Tryz.ntmps71 (by kernel_rfl) (by kernel_rfl) (by decide)
 less:=h1
 len:=h2
 npow:=h3
 next:=h4
end Go.Am
namespace Go.Am
open Go.Proofs Go.Sort
abbrev LessI:Prop:=∀ x y:Int,Pur Tryz.prog 139 [.int .i64 x,.int .i64 y] (.bool (decide (cfU x y<0)))
theorem zcm (x:Int):Pur Tryz.prog 148 [.int .i64 x] (.bool false):=by
 refine zl Tst.F148 (by simp [Tst.F148,Fn.mkX]) fun σ => ?_
 simp only [Tst.F148,Fn.mkX,Tst.b148]
 simp only [↓vcPre,↓z0,↓reduceIte,vcPost,vcStd,Nat.reduceEqDiff,reduceCtorEq,Nat.reduceAdd,Nat.reduceLeDiff,Int.reduceLT,Int.reduceLE,↓u_setN]
theorem zcy:LessI:=by
 intro x y
 refine zl Tst.F139 (by simp [Tst.F139,Fn.mkX]) fun σ => ?_
 simp only [Tst.F139,Fn.mkX,Tst.b139]
 simp only [↓vcPre,↓z0,↓reduceIte,vcPost,vcStd,Nat.reduceEqDiff,reduceCtorEq,Nat.reduceAdd,Nat.reduceLeDiff,Int.reduceLT,Int.reduceLE,↓u_setN]
 refine (zcm x).Q ?_
 simp only [↓vcPre,↓z0,↓reduceIte,vcPost,vcStd,Nat.reduceEqDiff,reduceCtorEq,Nat.reduceAdd,Nat.reduceLeDiff,Int.reduceLT,Int.reduceLE,↓u_setN]
 have e:decide (x<y)=decide (cfU x y<0):=by
  rw [Bool.eq_iff_iff,decide_eq_true_eq,decide_eq_true_eq];unfold cfU;omega
 rw [e]
theorem hI:SH Tryz.prog NI .i64:=zcj zcy z6c zah zaw
end Go.Am
namespace Go.Am.Tsq
open Go.Proofs Go.Am.B
def t28_82:BC:=z [m 82 8,g 83 71 [.t 82]] [4,6,7,8] (z [⟨some 84,none,.load (.ld 9 true),[.t 7]⟩,g 85 72 [.t 84],m 86 8,p 87 (.build [(.int .i64 0),(.int .i64 0),.nils] []) [],s 9 4 85,m 5 86,s 3 6 87] [4,5,6] .ret)
def t28_49:BC := .seq (z [f 49 1 10,l 50 1 49,g 51 69 [.t 50],m 48 51,e 52 0 48,e 53 1 48,e 54 2 48,m 13 52,m 14 53,m 15 54] [0,1,4,6,7,8,9,10,15] (z [m 55 15,u 56 .not 55] [0,1,4,6,7,8,9,10,56] (.cond (.t 56) (.seq (z [f 57 0 10,l 58 1 57,c 59 .and 58 128,c 60 .eql 59 0] [0,1,4,6,7,8,9,10,60] (.cond (.t 60) (z [p 61 (.build [(.int .i64 0),.nils,(.int .u32 0),(.bool false),(.int .u32 0),(.bool false),(.int .u32 0),(.bool false),.nils] []) [],f 62 3 10,l 63 1 62,g 64 68 [.c (.int .i64 2),.t 63],s 9 4 61,k 5 .nils,s 3 6 64] [4,5,6] .ret) .skip)) (z [m 65 8,f 66 1 10,l 67 1 66,⟨some 68,none,.alloc (.mksl 1 1),[.t 67]⟩,⟨some 69,none,.loud (.app 1 8),[.t 65,.t 68]⟩,m 8 69] [0,1,4,6,7,8,9] (.exit 1))) .skip))) (.seq (z [⟨some 70,none,.load (.ld 4 true),[.t 10]⟩,g 71 70 [.t 7,.t 70],⟨some 16,none,.alloc (.alloc [(.int .i64 0),(.int .i64 0),.nils]),[]⟩,s 3 16 71] [0,1,4,6,7,8,9,10,16] (z [f 72 0 16,l 73 1 72,c 74 .neq 73 0] [0,1,4,6,7,8,9,10,16,74] (.cond (.t 74) (.seq (z [p 75 (.build [(.int .i64 0),.nils,(.int .u32 0),(.bool false),(.int .u32 0),(.bool false),(.int .u32 0),(.bool false),.nils] []) []] [4,6,16,75] (.both (z [⟨some 76,none,.load (.ld 3 true),[.t 16]⟩] [4,6,75,76] (z [s 9 4 75] [4,6,76] (z [k 5 .nils] [4,5,6,76] (z [s 3 6 76] [4,5,6] (.ops [] [4,5,6]))))) (.both (z [s 9 4 75] [4,6,16] (z [k 5 .nils] [4,5,6,16] (z [⟨some 76,none,.load (.ld 3 true),[.t 16]⟩] [4,5,6,76] (z [s 3 6 76] [4,5,6] (.ops [] [4,5,6]))))) (.top)))) .ret) .skip))) (.ops [m 77 8,f 78 1 10,l 79 1 78,⟨some 80,none,.alloc (.mksl 1 1),[.t 79]⟩,⟨some 81,none,.loud (.app 1 8),[.t 77,.t 80]⟩,m 8 81] [0,1,4,6,7,8,9]))
def b28:BC:=z [⟨some 4,none,.alloc (.alloc [(.int .i64 0),.nils,(.int .u32 0),(.bool false),(.int .u32 0),(.bool false),(.int .u32 0),(.bool false),.nils]),[]⟩,k 5 .nils,⟨some 6,none,.alloc (.alloc [(.int .i64 0),(.int .i64 0),.nils]),[]⟩] [0,1,4,6] (z [⟨some 7,none,.alloc (.alloc [(.int .i64 0),.nils,(.int .u32 0),(.bool false),(.int .u32 0),(.bool false),(.int .u32 0),(.bool false),.nils]),[]⟩] [0,1,4,6,7] (z [k 8 .nils] [0,1,4,6,7,8] (z [⟨some 17,none,.alloc (.mkmap),[]⟩,m 9 17] [0,1,4,6,7,8,9] (.seq .skip (.seq (.block 0 (.loop [0,1,4,6,7,8,9] (.seq (z [m 18 0,u 19 .len 18,c 20 .gtr 19 0] [0,1,4,6,7,8,9,20] (.cond (.t 20) .skip (.exit 0))) (.block 1 (z [m 22 0,g 23 67 [.t 22],m 21 23,e 24 0 21,e 25 1 21,e 26 2 21,⟨some 10,none,.alloc (.alloc [(.int .i64 0),(.int .i64 0),.nils,.nils]),[]⟩,s 4 10 24,m 11 25,m 12 26] [1,4,6,7,8,9,10,11,12] (.seq (z [m 27 12,u 28 .not 27,m 29 28,⟨some 30,some (29,false),.pure (.mov),[.t 9]⟩,⟨some 31,some (29,false),.pure (.fld 1),[.t 10]⟩,⟨some 32,some (29,false),.load (.ld 1 false),[.t 31]⟩,⟨some 33,some (29,false),.load (.look false (.int .i64) (.bool false)),[.t 30,.t 32]⟩,⟨some 34,none,.pick,[.t 29,.c (.bool true),.t 33]⟩] [1,4,6,7,8,9,10,11,34] (.cond (.t 34) (z [p 35 (.build [(.int .i64 0),.nils,(.int .u32 0),(.bool false),(.int .u32 0),(.bool false),(.int .u32 0),(.bool false),.nils] []) [],g 36 68 [.c (.int .i64 1),.c .nils],s 9 4 35,k 5 .nils,s 3 6 36] [4,5,6] .ret) .skip)) (z [m 37 11,m 0 37] [0,1,4,6,7,8,9,10] (z [m 38 9,f 39 1 10,l 40 1 39,⟨none,none,.loud (.mupd (.int .i64)),[.t 38,.t 40,.c (.bool true)]⟩] [0,1,4,6,7,8,9,10] (.seq (z [f 41 1 10,l 42 1 41,c 43 .eql 42 5,m 44 43,⟨some 45,some (44,true),.pure (.mov),[.t 1]⟩,⟨some 46,some (44,true),.pure (.not),[.t 45]⟩,⟨some 47,none,.pick,[.t 44,.t 46,.c (.bool false)]⟩] [0,1,4,6,7,8,9,10,47] (.cond (.t 47) (.exit 1) .skip)) t28_49))))))))) t28_82)))))
def F28:Fn Tryz.prog 28:=Fn.mkX false b28 [.c 4 9 true,.t 5,.c 6 3 true] 88 Tryz.f28 _ Tryz.func28 (by decide) rfl Tryz.ntmps28 (by kernel_rfl) (by kernel_rfl)
end Go.Am.Tsq
