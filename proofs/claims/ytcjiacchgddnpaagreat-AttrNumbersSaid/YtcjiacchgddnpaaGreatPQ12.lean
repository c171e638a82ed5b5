/- A part of the proof: a logic for calls over plain values, and the functions that the law reaches, each walked once. -/
import Derived.Test.YtcjiacchgddnpaaGreatPQ11
set_option linter.unusedVariables false
set_option linter.unusedSimpArgs false
set_option linter.unusedSectionVars false
namespace Go.Am
open Go.Proofs Go.Sort
theorem wz {k:IntKind} {a b c d:Int}:alv (.mksl 1 4) [.int k a,.int k b,.int k c,.int k d]=some (.arr 1 [[.int k a],[.int k b],[.int k c],[.int k d]],fun id => .os id 1 0 4):=by rfl
theorem z0z {k:IntKind} {a b c:Int}:alv (.mksl 1 3) [.int k a,.int k b,.int k c]=some (.arr 1 [[.int k a],[.int k b],[.int k c]],fun id => .os id 1 0 3):=by rfl
theorem zai (x:Int):x.fdiv 65536=x / 65536:=Int.fdiv_eq_ediv_of_nonneg _ (by omega)
theorem z7s (x:Int):x.fdiv 256=x / 256:=Int.fdiv_eq_ediv_of_nonneg _ (by omega)
theorem Own.new {esz i:Nat} {s:Store} {L:List (List AV)} (hi:s i=none):Own esz s L (.os i esz 0 L.length) (s.set i (.arr esz L)) := .inr ⟨i,rfl,hi,Store.set_same _ _ _⟩
theorem s39 {s:Store} {L:List Int} {v:AV} (hr:Rd 1 s (L.map cB) v) (hL:L.length≤100000000) (n:Int):ACalls Tryz.prog 39 [v,.int .u32 n] s (fun r s'=>Store.sub s s'∧Own 1 s ((L++b4 n).map cB) r s'):=by
 refine zg Tst.F39 (by simp [Tst.F39,Fn.mkX]) ?_
 simp only [Tst.F39,Fn.mkX,Tst.b39]
 simp only [↓vcPre,↓z0,↓reduceIte,vcPost,vcStd,Nat.reduceEqDiff,reduceCtorEq,Nat.reduceAdd,Nat.reduceLeDiff,Int.reduceLT,Int.reduceLE,↓u_setN]
 refine AllocQ.i0 fun i hi => ?_
 simp only [↓vcPre,↓z0,↓reduceIte,vcPost,vcStd,Nat.reduceEqDiff,reduceCtorEq,Nat.reduceAdd,Nat.reduceLeDiff,Int.reduceLT,Int.reduceLE,↓u_setN]
 have hsi:=Store.sub_set s i (.arr 1 []) hi
 refine Own.appM (τ:=s) hsi (Own.new (L:=[]) hi) (hr.1 _ hsi) (by simp;omega) fun v1 s1 hs1 ho1 => ?_
 simp only [wz,↓vcPre,↓z0,↓reduceIte,vcPost,vcStd,Nat.reduceEqDiff,reduceCtorEq,Nat.reduceAdd,Nat.reduceLeDiff,Int.reduceLT,Int.reduceLE,↓u_setN]
 refine AllocQ.i0 fun b hb => ?_
 simp only [↓vcPre,↓z0,↓reduceIte,vcPost,vcStd,Nat.reduceEqDiff,reduceCtorEq,Nat.reduceAdd,Nat.reduceLeDiff,Int.reduceLT,Int.reduceLE,↓u_setN]
 have hsb:=Store.sub_set s1 b (.arr 1 [[.int .u8 (IntKind.u8.wrap (shrInt .u32 n 24))],[.int .u8 (IntKind.u8.wrap (shrInt .u32 n 16))],[.int .u8 (IntKind.u8.wrap (shrInt .u32 n 8))],[.int .u8 (IntKind.u8.wrap n)]]) hb
 refine Own.appM (τ:=s) (Store.sub_trans hs1 hsb) (ho1.mono hsb) (zm (Store.set_same _ _ _) rfl) (by simp;omega) fun v2 s2 hs2 ho2 => ?_
 refine EndQ.to _ _ rfl (Store.sub_refl _) ⟨hs2,?_⟩
 simpa [b4,cB,u8w,shrInt,IntKind.bits,z23,zai,z7s] using ho2
theorem s23 {s:Store} {L:List Int} {v:AV} (hr:Rd 1 s (L.map cB) v) (hL:L.length≤100000000) (n:Int):ACalls Tryz.prog 23 [v,.int .i64 n] s (fun r s'=>Store.sub s s'∧Own 1 s ((L++[n / 256 % 256,n % 256]).map cB) r s'):=by
 refine zg Tst.F23 (by simp [Tst.F23,Fn.mkX]) ?_
 simp only [Tst.F23,Fn.mkX,Tst.b23]
 simp only [↓vcPre,↓z0,↓reduceIte,vcPost,vcStd,Nat.reduceEqDiff,reduceCtorEq,Nat.reduceAdd,Nat.reduceLeDiff,Int.reduceLT,Int.reduceLE,↓u_setN]
 refine AllocQ.i0 fun i hi => ?_
 simp only [↓vcPre,↓z0,↓reduceIte,vcPost,vcStd,Nat.reduceEqDiff,reduceCtorEq,Nat.reduceAdd,Nat.reduceLeDiff,Int.reduceLT,Int.reduceLE,↓u_setN]
 have hsi:=Store.sub_set s i (.arr 1 []) hi
 refine Own.appM (τ:=s) hsi (Own.new (L:=[]) hi) (hr.1 _ hsi) (by simp;omega) fun v1 s1 hs1 ho1 => ?_
 refine AllocQ.i0 fun b hb => ?_
 simp only [↓vcPre,↓z0,↓reduceIte,vcPost,vcStd,Nat.reduceEqDiff,reduceCtorEq,Nat.reduceAdd,Nat.reduceLeDiff,Int.reduceLT,Int.reduceLE,↓u_setN]
 have hsb:=Store.sub_set s1 b (.arr 1 [[.int .u8 (IntKind.u8.wrap (shrInt .i64 n 8))],[.int .u8 (IntKind.u8.wrap n)]]) hb
 refine Own.appM (τ:=s) (Store.sub_trans hs1 hsb) (ho1.mono hsb) (zm (Store.set_same _ _ _) rfl) (by simp;omega) fun v2 s2 hs2 ho2 => ?_
 refine EndQ.to _ _ rfl (Store.sub_refl _) ⟨hs2,?_⟩
 simpa [cB,u8w,shrInt,IntKind.bits,z7s] using ho2
theorem c38 (l:List Seg) (hl:l.length≤10000) (ho:∀ s ∈ l,s.ls.length≤1000):Pur Tryz.prog 38 [.sl 2 (l.map Seg.c)] (.sl 1 ((encPath l).map cB)):=by
 intro σ
 refine zg Tst.F38 (by simp [Tst.F38,Fn.mkX]) ?_
 simp only [Tst.F38,Fn.mkX,Tst.b38]
 have hsz:∀ m:List Seg,(∀ s ∈ m,s.ls.length≤1000)→(encPath m).length≤4002*m.length:=by
  intro m
  induction m with
  | nil=>intro _;simp [encPath]
  | cons s r ih =>
    intro h
    have h1:=ih fun x hx=>h x (by simp [hx])
    have h2:=h s (by simp)
    have h3:=yk s.ls
    simp only [encPath,List.flatMap_cons,List.length_append,encSeg,List.length_cons,List.length_nil] at *
    omega
 simp only [↓vcPre,↓z0,↓reduceIte,vcPost,vcStd,Nat.reduceEqDiff,reduceCtorEq,Nat.reduceAdd,Nat.reduceLeDiff,Int.reduceLT,Int.reduceLE,↓u_setN]
 refine LoopQ.inv (S:=Nat×AV×Store) (fun q=>[(0,.sl 2 (l.map Seg.c)),(3,q.2.1),(4,.int .i64 (q.1:Int))]) (fun q=>q.2.2) (fun q=>q.1≤l.length∧Store.sub σ q.2.2∧Own 1 σ ((encPath (l.take q.1)).map cB) q.2.1 q.2.2) (fun q=>l.length+1 - q.1) (0,.nils,σ) rfl (Store.sub_refl _) ⟨by simp only;omega,Store.sub_refl _,by simpa [encPath] using Own.nil⟩ ?_
 rintro ⟨k,v,s⟩ ⟨hk,hs,hO⟩
 simp only at hk hs hO
 have hlk:=hsz (l.take k) fun s h=>ho s (List.mem_of_mem_take h)
 rw [List.length_take] at hlk
 simp only [↓vcPre,↓z0,↓reduceIte,vcPost,vcStd,Nat.reduceEqDiff,reduceCtorEq,Nat.reduceAdd,Nat.reduceLeDiff,Int.reduceLT,Int.reduceLE,↓u_setN]
 refine ⟨fun c1 => ?_,fun c1 => ?_⟩
 ·have ek:IntKind.i64.wrap ((k:Int)+1)=((k+1:Nat):Int):=by rw [zd (by unfold I64;omega)];omega
  have hls:=ho _ (List.getElem_mem c1)
  refine ⟨c1,c1,by simp [Seg.c],?_⟩
  simp only [Seg.c,↓vcPre,↓z0,↓reduceIte,vcPost,vcStd,Nat.reduceEqDiff,reduceCtorEq,Nat.reduceAdd,Nat.reduceLeDiff,Int.reduceLT,Int.reduceLE,↓u_setN]
  refine AllocQ.i0 fun b hb => ?_
  simp only [↓vcPre,↓z0,↓reduceIte,vcPost,vcStd,Nat.reduceEqDiff,reduceCtorEq,Nat.reduceAdd,Nat.reduceLeDiff,Int.reduceLT,Int.reduceLE,↓u_setN]
  have hsb:=Store.sub_set s b (.arr 1 [[.int .u8 (IntKind.u8.wrap l[k].kind)],[.int .u8 (IntKind.u8.wrap (l[k].ls.length:Int))]]) hb
  refine Own.appM (τ:=σ) (Store.sub_trans hs hsb) (hO.mono hsb) (zm (Store.set_same _ _ _) rfl) (by simp;omega) fun v1 s1 hs1 ho1 => ?_
  refine LoopQ.inv (S:=Nat×AV×Store) (fun q=>[(0,.sl 2 (l.map Seg.c)),(3,q.2.1),(4,.int .i64 (k:Int)),(5,.int .i64 (q.1:Int))]) (fun q=>q.2.2) (fun q=>q.1≤l[k].ls.length∧Store.sub σ q.2.2∧Own 1 σ ((encPath (l.take k)++([l[k].kind % 256,(l[k].ls.length:Int) % 256]++encW (l[k].ls.take q.1))).map cB) q.2.1 q.2.2) (fun q=>l[k].ls.length+1 - q.1) (0,v1,s1) rfl (Store.sub_refl _) ⟨by simp only;omega,hs1,by simpa [encW,cB,u8w] using ho1⟩ ?_
  rintro ⟨j,v2,s2⟩ ⟨hj,hs2,ho2⟩
  simp only at hj hs2 ho2
  have hle:=yk (l[k].ls.take j)
  rw [List.length_take] at hle
  simp only [Seg.c,↓vcPre,↓z0,↓reduceIte,vcPost,vcStd,Nat.reduceEqDiff,reduceCtorEq,Nat.reduceAdd,Nat.reduceLeDiff,Int.reduceLT,Int.reduceLE,↓u_setN]
  refine ⟨c1,fun d1 => ?_,fun d1 => ?_⟩
  ·have ej:IntKind.i64.wrap ((j:Int)+1)=((j+1:Nat):Int):=by rw [zd (by unfold I64;omega)];omega
   refine ⟨c1,d1,by simp [cU],?_⟩
   simp only [cU,↓vcPre,↓z0,↓reduceIte,vcPost,vcStd,Nat.reduceEqDiff,reduceCtorEq,Nat.reduceAdd,Nat.reduceLeDiff,Int.reduceLT,Int.reduceLE,↓u_setN]
   refine (s39 (Rd.own ho2) (by simp only [List.length_append,List.length_cons,List.length_nil];omega) _).Q ?_
   rintro r s3 ⟨hs3,ho3⟩
   simp only [↓vcPre,↓z0,↓reduceIte,vcPost,vcStd,Nat.reduceEqDiff,reduceCtorEq,Nat.reduceAdd,Nat.reduceLeDiff,Int.reduceLT,Int.reduceLE,↓u_setN]
   rw [ej]
   refine NextQ.to (j+1,r,s3) rfl (Store.sub_refl _) (by simp only;omega) ⟨by simp only;omega,Store.sub_trans hs2 hs3,?_⟩
   simp only
   rw [vc _ _ d1,←List.append_assoc,←List.append_assoc,List.append_assoc (encPath _)]
   exact ho3.weak hs2
  ·have e:l[k].ls.take j=l[k].ls:=List.take_of_length_le (by omega)
   rw [e] at ho2
   rw [ek]
   refine NextQ.to (k+1,v2,s2) rfl (Store.sub_refl _) (by simp only;omega) ⟨by simp only;omega,hs2,?_⟩
   simp only
   rw [uo _ _ c1]
   exact ho2
 ·have e:l.take k=l:=List.take_of_length_le (by omega)
  rw [e] at hO
  exact EndQ.own rfl hO hs ⟨rfl,rfl⟩
theorem wq (fl kind:Int) (M:List Int) (L:List Int):(L++oneA fl kind M).length≤L.length+4+M.length:=by
 rw [List.length_append];have:=x5 fl kind M;omega
theorem s37 {τ s:Store} (hτ:Store.sub τ s) {L M:List Int} {v wv:AV} (ho:Own 1 τ (L.map cB) v s) (hw:Rd 1 τ (M.map cB) wv) (hL:L.length≤20000000) (hM:M.length≤20000000) (fl k:Int) (hfl:fl=64∨fl=128∨fl=192) (hk:0≤k∧k≤8) :
 ACalls Tryz.prog 37 [v,.int .i64 fl,.int .i64 k,wv] s (fun r s'=>Store.sub τ s'∧Own 1 τ ((L++oneA fl k M).map cB) r s'):=by
 refine zg Tst.F37 (by simp [Tst.F37,Fn.mkX]) ?_
 simp only [Tst.F37,Fn.mkX,Tst.b37]
 have hlen:pv .len [wv]=some (.int .i64 (M.length:Int)):=by rw [hw.2];simp
 have hor:bitInt .or .i64 fl 16=fl+16∧fl % 256=fl∧(fl+16) % 256=fl+16:=by
  rcases hfl with h | h | h <;> rw [h] <;> decide
 have hk8:k % 256=k:=by omega
 simp only [hlen,z0z,↓vcPre,↓z0,↓reduceIte,vcPost,vcStd,Nat.reduceEqDiff,reduceCtorEq,Nat.reduceAdd,Nat.reduceLeDiff,Int.reduceLT,Int.reduceLE,↓u_setN]
 refine ⟨fun c1 => ?_,fun c1 => ?_⟩
 ·refine AllocQ.i0 fun b hb => ?_
  rw [hor.1]
  simp only [↓vcPre,↓z0,↓reduceIte,vcPost,vcStd,Nat.reduceEqDiff,reduceCtorEq,Nat.reduceAdd,Nat.reduceLeDiff,Int.reduceLT,Int.reduceLE,↓u_setN]
  have hsb:=Store.sub_set s b (.arr 1 [[.int .u8 (IntKind.u8.wrap (fl+16))],[.int .u8 (IntKind.u8.wrap k)]]) hb
  refine Own.appM (τ:=τ) (Store.sub_trans hτ hsb) (ho.mono hsb) (zm (Store.set_same _ _ _) rfl) (by simp;omega) fun v1 s1 hs1 ho1 => ?_
  simp only [hlen,↓vcPre,↓z0,↓reduceIte,vcPost,vcStd,Nat.reduceEqDiff,reduceCtorEq,Nat.reduceAdd,Nat.reduceLeDiff,Int.reduceLT,Int.reduceLE,↓u_setN]
  have ho1':Own 1 τ ((L++[fl+16,k]).map cB) v1 s1:=by simpa [cB,u8w,hor.2.2,hk8] using ho1
  refine (s23 (Rd.own ho1') (by simp;omega) _).Q ?_
  rintro r s2 ⟨hs2,ho2⟩
  simp only [↓vcPre,↓z0,↓reduceIte,vcPost,vcStd,Nat.reduceEqDiff,reduceCtorEq,Nat.reduceAdd,Nat.reduceLeDiff,Int.reduceLT,Int.reduceLE,↓u_setN]
  have hs2':=Store.sub_trans hs1 hs2
  refine Own.appM (τ:=τ) hs2' (ho2.weak hs1) (hw.1 _ hs2') (by simp;omega) fun v3 s3 hs3 ho3 => ?_
  refine EndQ.to _ _ rfl (Store.sub_refl _) ⟨hs3,?_⟩
  unfold oneA
  rw [if_pos (by omega)]
  rw [←List.map_append] at ho3
  simpa using ho3
 ·refine AllocQ.i0 fun b hb => ?_
  simp only [↓vcPre,↓z0,↓reduceIte,vcPost,vcStd,Nat.reduceEqDiff,reduceCtorEq,Nat.reduceAdd,Nat.reduceLeDiff,Int.reduceLT,Int.reduceLE,↓u_setN]
  have hsb:=Store.sub_set s b (.arr 1 [[.int .u8 (IntKind.u8.wrap fl)],[.int .u8 (IntKind.u8.wrap k)],[.int .u8 (IntKind.u8.wrap (M.length:Int))]]) hb
  refine Own.appM (τ:=τ) (Store.sub_trans hτ hsb) (ho.mono hsb) (zm (Store.set_same _ _ _) rfl) (by simp;omega) fun v1 s1 hs1 ho1 => ?_
  refine Own.appM (τ:=τ) hs1 ho1 (hw.1 _ hs1) (by simp;omega) fun v3 s3 hs3 ho3 => ?_
  refine EndQ.to _ _ rfl (Store.sub_refl _) ⟨hs3,?_⟩
  have e:(M.length:Int) % 256=(M.length:Int):=by omega
  unfold oneA
  rw [if_neg (by omega)]
  simpa [cB,u8w,hor.2.1,hk8,e] using ho3
end Go.Am
namespace Go.Am
open Go.Proofs Go.Sort
def num (l:List Int):Int:=l.foldl (fun a b=>a*256+b) 0
theorem z2e (l:List Int) (x:Int):num (l++[x])=num l*256+x:=by simp [num]
theorem z3p:∀ (l:List Int) (a:Int) (m:Nat),U8s l→0≤a→a<256 ^ m→0≤l.foldl (fun a b=>a*256+b) a∧l.foldl (fun a b=>a*256+b) a<256 ^ (m+l.length)
 | [],a,m,_,h1,h2=>⟨h1,h2⟩
 | x::l,a,m,h,h1,h2=>by
   have hx:=h x (by simp)
   have:=z3p l (a*256+x) (m+1) (fun y hy=>h y (by simp [hy])) (by omega) (by rw [Int.pow_succ];omega)
   simp only [List.foldl_cons,List.length_cons]
   rw [show m+(l.length+1)=m+1+l.length by omega]
   exact this
theorem uy (l:List Int) (h:U8s l):0≤num l∧num l<256 ^ l.length:=by
 have:=z3p l 0 0 h (by omega) (by decide)
 rwa [Nat.zero_add] at this
theorem z2k {n k:Nat} (h:n≤k) (hk:k≤4):(256:Int) ^ n≤256 ^ k:=by
 have h1:n=0∨n=1∨n=2∨n=3∨n=4:=by omega
 have h2:k=0∨k=1∨k=2∨k=3∨k=4:=by omega
 rcases h1 with rfl | rfl | rfl | rfl | rfl <;> rcases h2 with rfl | rfl | rfl | rfl | rfl <;> first | decide | omega
theorem z5c {m d:Nat} (h:d<256):(m*256) ||| d=m*256+d:=by
 have:=Nat.shiftLeft_add_eq_or_of_lt (b:=d) (i:=8) (by omega) m
 rw [Nat.shiftLeft_eq] at this
 exact this.symm
theorem zer {n c:Int} (h0:0≤n) (h1:n<72057594037927936) (h2:0≤c) (h3:c<256):bitInt .or .u64 (shlInt .u64 n 8) c=n*256+c:=by
 obtain ⟨m,rfl⟩:=Int.eq_ofNat_of_zero_le h0
 obtain ⟨d,rfl⟩:=Int.eq_ofNat_of_zero_le h2
 have e:shlInt .u64 (m:Int) 8=((m*256:Nat):Int):=by
  simp [shlInt,z0y,IntKind.bits];omega
 rw [e]
 show IntKind.u64.wrap (((BitVec.ofInt 64 ((m*256:Nat):Int)) ||| (BitVec.ofInt 64 (d:Int))).toNat:Int)=_
 have e1:(((m*256:Nat):Int) % ((2 ^ 64:Nat):Int)).toNat=m*256:=by omega
 have e2:((d:Int) % ((2 ^ 64:Nat):Int)).toNat=d:=by omega
 rw [BitVec.toNat_or,BitVec.toNat_ofInt,BitVec.toNat_ofInt,e1,e2,z5c (by omega),z0y];omega
theorem zeq {n c:Int} (h0:0≤n) (h1:n<16777216) (h2:0≤c) (h3:c<256):bitInt .or .u32 (shlInt .u32 n 8) c=n*256+c:=by
 obtain ⟨m,rfl⟩:=Int.eq_ofNat_of_zero_le h0
 obtain ⟨d,rfl⟩:=Int.eq_ofNat_of_zero_le h2
 have e:shlInt .u32 (m:Int) 8=((m*256:Nat):Int):=by
  simp [shlInt,z4p,IntKind.bits];omega
 rw [e]
 show IntKind.u32.wrap (((BitVec.ofInt 32 ((m*256:Nat):Int)) ||| (BitVec.ofInt 32 (d:Int))).toNat:Int)=_
 have e1:(((m*256:Nat):Int) % ((2 ^ 32:Nat):Int)).toNat=m*256:=by omega
 have e2:((d:Int) % ((2 ^ 32:Nat):Int)).toNat=d:=by omega
 rw [BitVec.toNat_or,BitVec.toNat_ofInt,BitVec.toNat_ofInt,e1,e2,z5c (by omega),z4p];omega
def rawM (n:Int) (R:List Int) (bad:Bool):List Int×List Int×Bool :=
 if bad=true∨(R.length:Int)<n then ([],R,true) else if n<1 then ([],R,false) else (R.take n.toNat,R.drop n.toNat,false)
def numM (k:Nat) (R:List Int) (bad:Bool):Int×List Int×Bool:=(num (rawM k R bad).1,(rawM k R bad).2)
theorem qf {n:Int} {R:List Int} {bad:Bool} (h:U8s R):U8s (rawM n R bad).1∧U8s (rawM n R bad).2.1:=by
 unfold rawM
 split
 ·exact ⟨fun x hx=>by simp at hx,h⟩
 ·split
  ·exact ⟨fun x hx=>by simp at hx,h⟩
  ·exact ⟨h.take _,h.drop _⟩
theorem rawM_len {n:Int} {R:List Int} {bad:Bool}:(rawM n R bad).2.1.length≤R.length∧(rawM n R bad).1.length≤R.length:=by
 unfold rawM
 split
 ·exact ⟨Nat.le_refl _,by simp⟩
 ·split
  ·exact ⟨Nat.le_refl _,by simp⟩
  ·exact ⟨by simp,by simp;omega⟩
theorem q0 {k:Nat} {R:List Int} {bad:Bool}:(rawM k R bad).1.length≤k:=by
 unfold rawM
 split
 ·simp
 ·split
  ·simp
  ·simp;omega
def RP (τ:Store) (id:Nat) (R:List Int) (bad:Bool) (s:Store):Prop:=τ id=none∧Store.sub τ s∧s id=some (.box [.sl 1 (R.map cB),.bool bad])
theorem RP.mono {τ s s':Store} {id:Nat} {R:List Int} {bad:Bool} (h:RP τ id R bad s) (hs:Store.sub s s'):RP τ id R bad s':=⟨h.1,Store.sub_trans h.2.1 hs,hs _ _ h.2.2⟩
theorem RP.set {τ s:Store} {id:Nat} {R R':List Int} {bad bad':Bool} (h:RP τ id R bad s):RP τ id R' bad' (s.set id (.box [.sl 1 (R'.map cB),.bool bad'])):=⟨h.1,za h.2.1 h.1,Store.set_same _ _ _⟩
theorem s51 {σ:Store} {M:List Int} {v:AV} (hr:Rd 1 σ (M.map cB) v) (hM:M.length≤1000000000):ACalls Tryz.prog 51 [v] σ (fun r s=>∃ id,r = .ptr id 0∧RP σ id M false s):=by
 refine zg Tst.F51 (by simp [Tst.F51,Fn.mkX]) ?_
 simp only [Tst.F51,Fn.mkX,Tst.b51]
 simp only [↓vcPre,↓z0,↓reduceIte,vcPost,vcStd,Nat.reduceEqDiff,reduceCtorEq,Nat.reduceAdd,Nat.reduceLeDiff,Int.reduceLT,Int.reduceLE,↓u_setN]
 refine (s93 hr hM).Q ?_
 rintro r s ⟨rfl,rfl⟩
 simp only [↓vcPre,↓z0,↓reduceIte,vcPost,vcStd,Nat.reduceEqDiff,reduceCtorEq,Nat.reduceAdd,Nat.reduceLeDiff,Int.reduceLT,Int.reduceLE,↓u_setN]
 refine AllocQ.i0 fun id hid => ?_
 simp only [↓vcPre,↓z0,↓reduceIte,vcPost,vcStd,Nat.reduceEqDiff,reduceCtorEq,Nat.reduceAdd,Nat.reduceLeDiff,Int.reduceLT,Int.reduceLE,↓u_setN]
 exact EndQ.to _ _ rfl (Store.sub_refl _) ⟨id,rfl,hid,Store.sub_set _ _ _ hid,Store.set_same _ _ _⟩
theorem s52 {τ s:Store} {id:Nat} {R:List Int} {bad:Bool} (h:RP τ id R bad s) (hR:R.length≤1000000000) (n:Int):ACalls Tryz.prog 52 [.ptr id 0,.int .i64 n] s (fun r s'=>r = .sl 1 ((rawM n R bad).1.map cB)∧RP τ id (rawM n R bad).2.1 (rawM n R bad).2.2 s'):=by
 refine zg Tst.F52 (by simp [Tst.F52,Fn.mkX]) ?_
 simp only [Tst.F52,Fn.mkX,Tst.b52]
 have hs:=h.2.2
 cases bad with
 | true =>
   simp only [hs,↓vcPre,↓z0,↓reduceIte,vcPost,vcStd,Nat.reduceEqDiff,reduceCtorEq,Nat.reduceAdd,Nat.reduceLeDiff,Int.reduceLT,Int.reduceLE,↓u_setN]
   have e:rawM n R true=([],R,true):=by simp [rawM]
   rw [e]
   exact EndQ.nil1 1 _ rfl (Store.sub_refl _) ⟨rfl,h.set⟩
 | false =>
   by_cases g1:(R.length:Int)<n
   ·simp only [hs,g1,↓vcPre,↓z0,↓reduceIte,vcPost,vcStd,Nat.reduceEqDiff,reduceCtorEq,Nat.reduceAdd,Nat.reduceLeDiff,Int.reduceLT,Int.reduceLE,↓u_setN]
    have e:rawM n R false=([],R,true):=by simp [rawM,g1]
    rw [e]
    exact EndQ.nil1 1 _ rfl (Store.sub_refl _) ⟨rfl,h.set⟩
   ·simp only [hs,g1,↓vcPre,↓z0,↓reduceIte,vcPost,vcStd,Nat.reduceEqDiff,reduceCtorEq,Nat.reduceAdd,Nat.reduceLeDiff,Int.reduceLT,Int.reduceLE,↓u_setN]
    refine ⟨fun g2 => ?_,fun g2 => ?_⟩
    ·have e:rawM n R false=([],R,false):=by simp [rawM,g1,g2]
     rw [e]
     exact EndQ.nil1 1 _ rfl (Store.sub_refl _) ⟨rfl,h.set⟩
    ·have e:rawM n R false=(R.take n.toNat,R.drop n.toNat,false):=by simp [rawM,g1,g2]
     rw [e]
     simp only [Option.getD_some,↓vcPre,↓z0,↓reduceIte,vcPost,vcStd,Nat.reduceEqDiff,reduceCtorEq,Nat.reduceAdd,Nat.reduceLeDiff,Int.reduceLT,Int.reduceLE,↓u_setN]
     refine ⟨by omega,?_⟩
     have ht:List.drop (Int.toNat 0) (List.take n.toNat (R.map cB))=(R.take n.toNat).map cB:=by rw [List.map_take];rfl
     rw [ht]
     refine (s93 Rd.sl (by rw [List.length_take];omega)).Q ?_
     rintro r s' ⟨rfl,rfl⟩
     simp only [Option.getD_none,↓vcPre,↓z0,↓reduceIte,vcPost,vcStd,Nat.reduceEqDiff,reduceCtorEq,Nat.reduceAdd,Nat.reduceLeDiff,Int.reduceLT,Int.reduceLE,↓u_setN]
     refine ⟨by omega,?_⟩
     have hd:List.drop n.toNat (List.take R.length (R.map cB))=(R.drop n.toNat).map cB:=by
      rw [List.take_of_length_le (by simp),List.map_drop]
     rw [hd,Store.set_set]
     exact EndQ.to _ _ rfl (Store.sub_refl _) ⟨rfl,h.set⟩
theorem s54 {τ s:Store} {id:Nat} {R:List Int} {bad:Bool} (h:RP τ id R bad s):ACalls Tryz.prog 54 [.ptr id 0] s (fun r s'=>s'=s∧r = .int .i64 (if bad then 0 else (R.length:Int))):=by
 refine zg Tst.F54 (by simp [Tst.F54,Fn.mkX]) ?_
 simp only [Tst.F54,Fn.mkX,Tst.b54]
 have hs:=h.2.2
 cases bad <;> simp only [hs,↓vcPre,↓z0,↓reduceIte,vcPost,vcStd,Nat.reduceEqDiff,reduceCtorEq,Nat.reduceAdd,Nat.reduceLeDiff,Int.reduceLT,Int.reduceLE,↓u_setN] <;> exact EndQ.to _ _ rfl (Store.sub_refl _) ⟨rfl,rfl⟩
theorem s55 {τ s:Store} {id:Nat} {R:List Int} {bad:Bool} (h:RP τ id R bad s):ACalls Tryz.prog 55 [.ptr id 0] s (fun r s'=>s'=s∧r = .bool (!bad)):=by
 refine zg Tst.F55 (by simp [Tst.F55,Fn.mkX]) ?_
 simp only [Tst.F55,Fn.mkX,Tst.b55]
 have hs:=h.2.2
 simp only [hs,↓vcPre,↓z0,↓reduceIte,vcPost,vcStd,Nat.reduceEqDiff,reduceCtorEq,Nat.reduceAdd,Nat.reduceLeDiff,Int.reduceLT,Int.reduceLE,↓u_setN]
 exact EndQ.to _ _ rfl (Store.sub_refl _) ⟨rfl,rfl⟩
theorem s94 {τ s:Store} {id:Nat} {R:List Int} {bad:Bool} (h:RP τ id R bad s) (hR:R.length≤1000000000) (hu:U8s R) (k:Nat) (hk:k≤4):ACalls Tryz.prog 94 [.ptr id 0,.int .i64 (k:Int)] s (fun r s'=>r = .int .u64 (numM k R bad).1∧RP τ id (numM k R bad).2.1 (numM k R bad).2.2 s'):=by
 refine zg Tst.F94 (by simp [Tst.F94,Fn.mkX]) ?_
 simp only [Tst.F94,Fn.mkX,Tst.b94]
 simp only [↓vcPre,↓z0,↓reduceIte,vcPost,vcStd,Nat.reduceEqDiff,reduceCtorEq,Nat.reduceAdd,Nat.reduceLeDiff,Int.reduceLT,Int.reduceLE,↓u_setN]
 refine (s52 h hR _).Q ?_
 rintro r s' ⟨rfl,h'⟩
 have hx:=(qf (n:=(k:Int)) (bad:=bad) hu).1
 have hl:=q0 (k:=k) (R:=R) (bad:=bad)
 unfold numM
 generalize rawM (k:Int) R bad=q at h' hx hl ⊢
 simp only [↓vcPre,↓z0,↓reduceIte,vcPost,vcStd,Nat.reduceEqDiff,reduceCtorEq,Nat.reduceAdd,Nat.reduceLeDiff,Int.reduceLT,Int.reduceLE,↓u_setN]
 refine LoopQ.inv (S:=Nat) (fun j=>[(5,.int .u64 (num (q.1.take j))),(10,.sl 1 (q.1.map cB)),(11,.int .i64 (q.1.length:Int)),(12,.int .i64 (j:Int))]) (fun _=>s') (fun j=>j≤q.1.length) (fun j=>q.1.length+1 - j) 0 rfl (Store.sub_refl _) (by omega) ?_
 intro j hj
 simp only [↓vcPre,↓z0,↓reduceIte,vcPost,vcStd,Nat.reduceEqDiff,reduceCtorEq,Nat.reduceAdd,Nat.reduceLeDiff,Int.reduceLT,Int.reduceLE,↓u_setN]
 refine ⟨fun c1 => ?_,fun c1 => ?_⟩
 ·have ej:IntKind.i64.wrap ((j:Int)+1)=((j+1:Nat):Int):=by rw [zd (by unfold I64;omega)];omega
  refine ⟨c1,by simp [cB],?_⟩
  simp only [cB,↓vcPre,↓z0,↓reduceIte,vcPost,vcStd,Nat.reduceEqDiff,reduceCtorEq,Nat.reduceAdd,Nat.reduceLeDiff,Int.reduceLT,Int.reduceLE,↓u_setN]
  have hb:=uy _ (hx.take j)
  have h8:=hx _ (List.getElem_mem c1)
  have hp:(256:Int) ^ (q.1.take j).length≤256 ^ 4:=z2k (by rw [List.length_take];omega) (by omega)
  have hw:IntKind.u64.wrap q.1[j]=q.1[j]:=by rw [z0y];omega
  rw [ej,hw,zer hb.1 (by omega) h8.1 h8.2]
  refine NextQ.to (j+1) ?_ (Store.sub_refl _) (by omega) (by omega)
  rw [List.take_add_one,List.getElem?_eq_getElem c1,Option.toList_some,z2e]
 ·have e:q.1.take j=q.1:=List.take_of_length_le (by omega)
  rw [e]
  exact EndQ.to _ _ rfl (Store.sub_refl _) ⟨rfl,h'⟩
theorem yp {k:Nat} (hk:k≤4) {R:List Int} {bad:Bool} (hu:U8s R):0≤(numM k R bad).1∧(numM k R bad).1<4294967296:=by
 have hx:=(qf (n:=(k:Int)) (bad:=bad) hu).1
 have hl:=q0 (k:=k) (R:=R) (bad:=bad)
 have hb:=uy _ hx
 have hp:(256:Int) ^ (rawM k R bad).1.length≤256 ^ 4:=z2k (by omega) (by omega)
 unfold numM
 simp only
 omega
theorem s95 {τ s:Store} {id:Nat} {R:List Int} {bad:Bool} (h:RP τ id R bad s) (hR:R.length≤1000000000) (hu:U8s R):ACalls Tryz.prog 95 [.ptr id 0] s (fun r s'=>r = .int .i64 (numM 1 R bad).1∧RP τ id (numM 1 R bad).2.1 (numM 1 R bad).2.2 s'):=by
 refine zg Tst.F95 (by simp [Tst.F95,Fn.mkX]) ?_
 simp only [Tst.F95,Fn.mkX,Tst.b95]
 simp only [↓vcPre,↓z0,↓reduceIte,vcPost,vcStd,Nat.reduceEqDiff,reduceCtorEq,Nat.reduceAdd,Nat.reduceLeDiff,Int.reduceLT,Int.reduceLE,↓u_setN]
 refine (s94 h hR hu 1 (by omega)).Q ?_
 rintro r s' ⟨rfl,h'⟩
 have hb:=yp (k:=1) (by omega) (bad:=bad) hu
 simp only [↓vcPre,↓z0,↓reduceIte,vcPost,vcStd,Nat.reduceEqDiff,reduceCtorEq,Nat.reduceAdd,Nat.reduceLeDiff,Int.reduceLT,Int.reduceLE,↓u_setN]
 exact EndQ.to _ _ rfl (Store.sub_refl _) ⟨by rw [zd (by unfold I64;omega)],h'⟩
theorem s53 {τ s:Store} {id:Nat} {R:List Int} {bad:Bool} (h:RP τ id R bad s) (hR:R.length≤1000000000) (hu:U8s R):ACalls Tryz.prog 53 [.ptr id 0] s (fun r s'=>r = .int .i64 (numM 2 R bad).1∧RP τ id (numM 2 R bad).2.1 (numM 2 R bad).2.2 s'):=by
 refine zg Tst.F53 (by simp [Tst.F53,Fn.mkX]) ?_
 simp only [Tst.F53,Fn.mkX,Tst.b53]
 simp only [↓vcPre,↓z0,↓reduceIte,vcPost,vcStd,Nat.reduceEqDiff,reduceCtorEq,Nat.reduceAdd,Nat.reduceLeDiff,Int.reduceLT,Int.reduceLE,↓u_setN]
 refine (s94 h hR hu 2 (by omega)).Q ?_
 rintro r s' ⟨rfl,h'⟩
 have hb:=yp (k:=2) (by omega) (bad:=bad) hu
 simp only [↓vcPre,↓z0,↓reduceIte,vcPost,vcStd,Nat.reduceEqDiff,reduceCtorEq,Nat.reduceAdd,Nat.reduceLeDiff,Int.reduceLT,Int.reduceLE,↓u_setN]
 exact EndQ.to _ _ rfl (Store.sub_refl _) ⟨by rw [zd (by unfold I64;omega)],h'⟩
theorem z74 {τ s:Store} {id:Nat} {R:List Int} {bad:Bool} (h:RP τ id R bad s) (hR:R.length≤1000000000) (hu:U8s R):ACalls Tryz.prog 132 [.ptr id 0] s (fun r s'=>r = .int .u32 (numM 4 R bad).1∧RP τ id (numM 4 R bad).2.1 (numM 4 R bad).2.2 s'):=by
 refine zg Tst.F132 (by simp [Tst.F132,Fn.mkX]) ?_
 simp only [Tst.F132,Fn.mkX,Tst.b132]
 simp only [↓vcPre,↓z0,↓reduceIte,vcPost,vcStd,Nat.reduceEqDiff,reduceCtorEq,Nat.reduceAdd,Nat.reduceLeDiff,Int.reduceLT,Int.reduceLE,↓u_setN]
 refine (s94 h hR hu 4 (by omega)).Q ?_
 rintro r s' ⟨rfl,h'⟩
 have hb:=yp (k:=4) (by omega) (bad:=bad) hu
 simp only [↓vcPre,↓z0,↓reduceIte,vcPost,vcStd,Nat.reduceEqDiff,reduceCtorEq,Nat.reduceAdd,Nat.reduceLeDiff,Int.reduceLT,Int.reduceLE,↓u_setN]
 exact EndQ.to _ _ rfl (Store.sub_refl _) ⟨by rw [z4p,Int.emod_eq_of_lt hb.1 hb.2],h'⟩
def RF (τ:Store) (id:Nat) (v:AV) (B:List Int) (at_:Nat) (lack:Bool) (s:Store):Prop:=τ id=none∧Store.sub τ s∧s id=some (.box [v,.int .i64 (at_:Int),.bool lack])∧Rd 1 τ (B.map cB) v∧at_≤B.length
theorem RF.mono {τ s s':Store} {id:Nat} {v:AV} {B:List Int} {at_:Nat} {lack:Bool} (h:RF τ id v B at_ lack s) (hs:Store.sub s s'):RF τ id v B at_ lack s':=⟨h.1,Store.sub_trans h.2.1 hs,hs _ _ h.2.2.1,h.2.2.2⟩
theorem RF.set {τ s:Store} {id:Nat} {v:AV} {B:List Int} {at_ at':Nat} {lack lack':Bool} (h:RF τ id v B at_ lack s) (ha:at'≤B.length):RF τ id v B at' lack' (s.set id (.box [v,.int .i64 (at':Int),.bool lack'])):=⟨h.1,za h.2.1 h.1,Store.set_same _ _ _,h.2.2.2.1,ha⟩
theorem Rd.slice {esz:Nat} {τ:Store} {L:List (List AV)} {v:AV} (h:Rd esz τ L v) {lo hi:Nat} (h1:lo≤hi) (h2:hi≤L.length):∃ v',pSlice esz v (lo:Int) (some (hi:Int))=some v'∧Rd esz τ ((L.take hi).drop lo) v':=by
 rcases h.cases with ⟨rfl,h0⟩ | rfl | ⟨g,o,n,rfl⟩
 ·subst h0
  simp only [List.length_nil] at h2
  refine ⟨.nils,by simp [pSlice];omega,by simpa using Rd.nils⟩
 ·refine ⟨.sl esz ((L.take hi).drop lo),by simp [pSlice];omega,Rd.sl⟩
 ·have hl:=h.2
  simp only [pv,pLen,Option.some.injEq,AV.int.injEq,true_and] at hl
  refine ⟨.os g esz (o+lo) (hi - lo),by simp [pSlice];omega,fun t ht => ?_,by simp [pv,pLen];omega⟩
  have h3:=h.1 t ht
  unfold slc at h3 ⊢
  simp only at h3 ⊢
  split at h3
  ·rename_i e2 es hg
   split at h3
   ·rename_i e;obtain ⟨_,rfl,hle⟩:=e
    have h4:=Option.some.inj h3
    have e3:List.drop lo (List.take n (List.drop o es))=List.take (n - lo) (List.drop (o+lo) es):=by rw [List.drop_take,List.drop_drop]
    rw [if_pos ⟨trivial,rfl,by omega⟩,←h4,List.drop_take,e3,List.take_take,Nat.min_eq_left (by omega)]
   ·cases h3
  ·cases h3
theorem Rd.isTup {esz:Nat} {τ:Store} {L:List (List AV)} {v:AV} (h:Rd esz τ L v):v.isTup=false∧v.cells=[v]:=by
 rcases h.cases with ⟨rfl,_⟩ | rfl | ⟨g,o,n,rfl⟩ <;> exact ⟨rfl,rfl⟩
theorem zf1 {τ s:Store} {id:Nat} {v:AV} {B:List Int} {at_:Nat} {lack:Bool} (h:RF τ id v B at_ lack s) (hB:B.length≤1000000000) (n:Int) (hn:n≤1000000000000):ACalls Tryz.prog 84 [.ptr id 0,.int .i64 n] s (fun r s'=>Own 1 s ((rawM n (B.drop at_) lack).1.map cB) r s'∧(∀ q o,q≠id→s q=some o→s' q=some o)∧RF τ id v B (at_+(rawM n (B.drop at_) lack).1.length) (rawM n (B.drop at_) lack).2.2 s'):=by
 refine zg Tst.F84 (by simp [Tst.F84,Fn.mkX]) ?_
 simp only [Tst.F84,Fn.mkX,Tst.b84]
 have hs:=h.2.2.1
 have hr:=h.2.2.2.1
 have hat:=h.2.2.2.2
 have hlen:pv .len [v]=some (.int .i64 (B.length:Int)):=by rw [hr.2];simp
 have hdl:(B.drop at_).length=B.length - at_:=List.length_drop
 cases lack with
 | true =>
   simp only [hs,↓vcPre,↓z0,↓reduceIte,vcPost,vcStd,Nat.reduceEqDiff,reduceCtorEq,Nat.reduceAdd,Nat.reduceLeDiff,Int.reduceLT,Int.reduceLE,↓u_setN]
   have e:rawM n (B.drop at_) true=([],B.drop at_,true):=by simp [rawM]
   rw [e]
   exact EndQ.to _ _ rfl (Store.sub_refl _) ⟨Own.nil,fun _ _ _ h=>h,h⟩
 | false =>
   simp only [hs,↓vcPre,↓z0,↓reduceIte,vcPost,vcStd,Nat.reduceEqDiff,reduceCtorEq,Nat.reduceAdd,Nat.reduceLeDiff,Int.reduceLT,Int.reduceLE,↓u_setN]
   refine ⟨fun g1 => ?_,fun g1 => ?_⟩
   ·have e:rawM n (B.drop at_) false=([],B.drop at_,false):=by
     unfold rawM;rw [if_neg (by simp;omega),if_pos g1]
    rw [e]
    exact EndQ.to _ _ rfl (Store.sub_refl _) ⟨Own.nil,fun _ _ _ h=>h,h⟩
   ·simp only [hlen,↓vcPre,↓z0,↓reduceIte,vcPost,vcStd,Nat.reduceEqDiff,reduceCtorEq,Nat.reduceAdd,Nat.reduceLeDiff,Int.reduceLT,Int.reduceLE,↓u_setN]
    have ew:IntKind.i64.wrap ((B.length:Int) - (at_:Int))=(B.length:Int) - at_:=zd (by unfold I64;omega)
    rw [ew]
    refine ⟨fun g2 => ?_,fun g2 => ?_⟩
    ·have e:rawM n (B.drop at_) false=([],B.drop at_,true):=by
      unfold rawM;rw [if_pos (by right;omega)]
     rw [e]
     exact EndQ.to _ _ rfl (Store.sub_refl _) ⟨Own.nil,fun q o hq h=>by rw [Store.set_ne _ _ hq];exact h,h.set hat⟩
    ·have e:rawM n (B.drop at_) false=((B.drop at_).take n.toNat,(B.drop at_).drop n.toNat,false):=by
      unfold rawM;rw [if_neg (by simp;omega),if_neg g1]
     rw [e]
     have ea:IntKind.i64.wrap ((at_:Int)+n)=((at_+n.toNat:Nat):Int):=by rw [zd (by unfold I64;omega)];omega
     rw [ea]
     obtain ⟨v',hv',hr'⟩:=hr.slice (lo:=at_) (hi:=at_+n.toNat) (by omega) (by simp;omega)
     rw [hv',yr]
     refine AllocQ.i0 fun i hi => ?_
     have hii:¬ id=i:=fun e=>by rw [e,hi] at hs;cases hs
     have hx:(List.drop at_ (List.take (at_+n.toNat) (B.map cB)))=((B.drop at_).take n.toNat).map cB:=by
      rw [List.drop_take,Nat.add_sub_cancel_left,List.map_take,List.map_drop]
     rw [hx] at hr'
     have hsi:=Store.sub_set s i (.arr 1 []) hi
     have hτi:=zk h.2.1 hi
     simp only [↓vcPre,↓z0,↓reduceIte,vcPost,vcStd,Nat.reduceEqDiff,reduceCtorEq,Nat.reduceAdd,Nat.reduceLeDiff,Int.reduceLT,Int.reduceLE,↓u_setN]
     refine x9 (zm (Store.set_same _ _ _) rfl) (hr'.1 _ (Store.sub_trans h.2.1 hsi)) (by simp;omega) fun j hj => ?_
     have hji:¬ j=i:=fun e=>by rw [e,Store.set_same] at hj;cases hj
     have hjd:¬ id=j:=fun e=>by rw [e] at hs;rw [Store.set_ne _ _ hji] at hj;rw [hj] at hs;cases hs
     have hsj:s j=none:=by rw [Store.set_ne _ _ hji] at hj;exact hj
     simp only [List.nil_append,List.length_nil,Nat.zero_add]
     simp only [hjd,hii,hs,Store.set_ne _ _ hjd,Store.del_ne _ hii,Store.set_ne _ _ hii,↓vcPre,↓z0,↓reduceIte,vcPost,vcStd,Nat.reduceEqDiff,reduceCtorEq,Nat.reduceAdd,Nat.reduceLeDiff,Int.reduceLT,Int.reduceLE,↓u_setN]
     rw [ea]
     have hT:=h.set (lack':=false) (at':=at_+n.toNat) (by omega)
     have el:((B.drop at_).take n.toNat).length=n.toNat:=by rw [List.length_take];omega
     have hsub:∀ q o,q≠id→s q=some o→(((s.set i (.arr 1 [])).del i).set j (.arr 1 (((B.drop at_).take n.toNat).map cB))).set id (.box [v,.int .i64 ((at_+n.toNat:Nat):Int),.bool false]) q=some o:=fun q o hq h=>by
      have hqj:q≠j:=fun e=>by rw [e,hsj] at h;cases h
      have hqi:q≠i:=fun e=>by rw [e,hi] at h;cases h
      rw [Store.set_ne _ _ hq,Store.set_ne _ _ hqj,Store.del_ne _ hqi,Store.set_ne _ _ hqi];exact h
     refine EndQ.to _ _ rfl (Store.sub_refl _) ⟨.inr ⟨j,by simp,hsj,?_⟩,hsub,?_⟩
     ·rw [Store.set_ne _ _ (fun e=>hjd e.symm),Store.set_same]
     ·simp only [el]
      refine ⟨h.1,fun q o hq => ?_,Store.set_same _ _ _,h.2.2.2.1,by omega⟩
      have hqd:q≠id:=fun e=>by rw [e,h.1] at hq;cases hq
      exact hsub q o hqd (h.2.1 _ _ hq)
theorem s84 {τ s:Store} {id:Nat} {v:AV} {B:List Int} {at_:Nat} {lack:Bool} (h:RF τ id v B at_ lack s) (hB:B.length≤1000000000) (n:Int) (hn:n≤1000000000000):ACalls Tryz.prog 84 [.ptr id 0,.int .i64 n] s (fun r s'=>r = .sl 1 ((rawM n (B.drop at_) lack).1.map cB)∧RF τ id v B (at_+(rawM n (B.drop at_) lack).1.length) (rawM n (B.drop at_) lack).2.2 s'):=by
 refine (zf1 h hB n hn).weakRes ?_
 rintro r s' ⟨ho,_,hf⟩
 rcases ho with ⟨h1,rfl⟩ | ⟨g,rfl,hg,hh⟩
 ·refine Weak.of_one (WeakL.nil 0 1 rfl (WeakL.pure ⟨_,rfl,?_,hf⟩))
  rw [h1]
 ·refine Weak.of_one (WeakL.freeze 0 rfl hh (by omega) (WeakL.pure ⟨_,rfl,?_,?_⟩))
  ·rw [List.drop_zero,List.take_of_length_le (Nat.le_refl _)]
  ·have hgi:¬ id=g:=fun e=>by rw [e] at h;rw [h.2.2.1] at hg;cases hg
   exact ⟨hf.1,sub_del hf.2.1 (zk h.2.1 hg),by rw [Store.del_ne _ hgi];exact hf.2.2.1,hf.2.2.2⟩
theorem RF.left {τ s:Store} {id:Nat} {v:AV} {B:List Int} {at_:Nat} {lack:Bool} (h:RF τ id v B at_ lack s):(B.drop at_).length=B.length - at_:=List.length_drop
theorem s81 {τ s:Store} {id:Nat} {v:AV} {B:List Int} {at_:Nat} {lack:Bool} (h:RF τ id v B at_ lack s) (hB:B.length≤1000000000):ACalls Tryz.prog 81 [.ptr id 0] s (fun r s'=>s'=s∧r = .int .i64 (if lack then 0 else ((B.drop at_).length:Int))):=by
 refine zg Tst.F81 (by simp [Tst.F81,Fn.mkX]) ?_
 simp only [Tst.F81,Fn.mkX,Tst.b81]
 have hs:=h.2.2.1
 have hr:=h.2.2.2.1
 have hat:=h.2.2.2.2
 have hl:=h.left
 have hlen:pv .len [v]=some (.int .i64 (B.length:Int)):=by rw [hr.2];simp
 cases lack with
 | true=>simp only [hs,↓vcPre,↓z0,↓reduceIte,vcPost,vcStd,Nat.reduceEqDiff,reduceCtorEq,Nat.reduceAdd,Nat.reduceLeDiff,Int.reduceLT,Int.reduceLE,↓u_setN];exact EndQ.to _ _ rfl (Store.sub_refl _) ⟨rfl,rfl⟩
 | false =>
   simp only [hs,hlen,↓vcPre,↓z0,↓reduceIte,vcPost,vcStd,Nat.reduceEqDiff,reduceCtorEq,Nat.reduceAdd,Nat.reduceLeDiff,Int.reduceLT,Int.reduceLE,↓u_setN]
   rw [zd (by unfold I64;omega)]
   refine EndQ.to _ _ rfl (Store.sub_refl _) ⟨rfl,?_⟩
   rw [hl,if_neg (by simp)]
   congr 1;omega
theorem w5 {n:Int} {R:List Int} {bad:Bool}:(rawM n R bad).2.1=R.drop (rawM n R bad).1.length:=by
 unfold rawM
 split
 ·rfl
 ·split
  ·rfl
  ·simp only [List.length_take];congr 1;omega
theorem z72 {τ s:Store} {id:Nat} {v:AV} {B:List Int} {at_:Nat} {lack:Bool} (h:RF τ id v B at_ lack s) (hB:B.length≤1000000000) (hu:U8s B) (k:Nat) (hk:k≤4):ACalls Tryz.prog 125 [.ptr id 0,.int .i64 (k:Int)] s (fun r s'=>r = .int .u32 (numM k (B.drop at_) lack).1∧RF τ id v B (at_+(rawM k (B.drop at_) lack).1.length) (numM k (B.drop at_) lack).2.2 s'):=by
 refine zg Tst.F125 (by simp [Tst.F125,Fn.mkX]) ?_
 simp only [Tst.F125,Fn.mkX,Tst.b125]
 simp only [↓vcPre,↓z0,↓reduceIte,vcPost,vcStd,Nat.reduceEqDiff,reduceCtorEq,Nat.reduceAdd,Nat.reduceLeDiff,Int.reduceLT,Int.reduceLE,↓u_setN]
 refine (s84 h hB _ (by omega)).Q ?_
 rintro r s' ⟨rfl,h'⟩
 have hx:=(qf (n:=(k:Int)) (bad:=lack) (hu.drop at_)).1
 have hl:=q0 (k:=k) (R:=B.drop at_) (bad:=lack)
 unfold numM
 generalize rawM (k:Int) (B.drop at_) lack=q at h' hx hl ⊢
 simp only [↓vcPre,↓z0,↓reduceIte,vcPost,vcStd,Nat.reduceEqDiff,reduceCtorEq,Nat.reduceAdd,Nat.reduceLeDiff,Int.reduceLT,Int.reduceLE,↓u_setN]
 refine LoopQ.inv (S:=Nat) (fun j=>[(5,.sl 1 (q.1.map cB)),(6,.int .u32 (num (q.1.take j))),(7,.int .i64 (j:Int))]) (fun _=>s') (fun j=>j≤q.1.length) (fun j=>q.1.length+1 - j) 0 rfl (Store.sub_refl _) (by omega) ?_
 intro j hj
 simp only [↓vcPre,↓z0,↓reduceIte,vcPost,vcStd,Nat.reduceEqDiff,reduceCtorEq,Nat.reduceAdd,Nat.reduceLeDiff,Int.reduceLT,Int.reduceLE,↓u_setN]
 refine ⟨fun c1 => ?_,fun c1 => ?_⟩
 ·have ej:IntKind.i64.wrap ((j:Int)+1)=((j+1:Nat):Int):=by rw [zd (by unfold I64;omega)];omega
  refine ⟨c1,by simp [cB],?_⟩
  simp only [cB,↓vcPre,↓z0,↓reduceIte,vcPost,vcStd,Nat.reduceEqDiff,reduceCtorEq,Nat.reduceAdd,Nat.reduceLeDiff,Int.reduceLT,Int.reduceLE,↓u_setN]
  have hb:=uy _ (hx.take j)
  have h8:=hx _ (List.getElem_mem c1)
  have hp:(256:Int) ^ (q.1.take j).length≤256 ^ 3:=z2k (by rw [List.length_take];omega) (by omega)
  have hw:IntKind.u32.wrap q.1[j]=q.1[j]:=by rw [z4p];omega
  rw [ej,hw,zeq hb.1 (by omega) h8.1 h8.2]
  refine NextQ.to (j+1) ?_ (Store.sub_refl _) (by omega) (by omega)
  rw [List.take_add_one,List.getElem?_eq_getElem c1,Option.toList_some,z2e]
 ·have e:q.1.take j=q.1:=List.take_of_length_le (by omega)
  rw [e]
  exact EndQ.to _ _ rfl (Store.sub_refl _) ⟨rfl,h'⟩
theorem s82 {τ s:Store} {id:Nat} {v:AV} {B:List Int} {at_:Nat} {lack:Bool} (h:RF τ id v B at_ lack s) (hB:B.length≤1000000000) (hu:U8s B):ACalls Tryz.prog 82 [.ptr id 0] s (fun r s'=>r = .int .i64 (numM 1 (B.drop at_) lack).1∧RF τ id v B (at_+(rawM (1:Nat) (B.drop at_) lack).1.length) (numM 1 (B.drop at_) lack).2.2 s'):=by
 refine zg Tst.F82 (by simp [Tst.F82,Fn.mkX]) ?_
 simp only [Tst.F82,Fn.mkX,Tst.b82]
 simp only [↓vcPre,↓z0,↓reduceIte,vcPost,vcStd,Nat.reduceEqDiff,reduceCtorEq,Nat.reduceAdd,Nat.reduceLeDiff,Int.reduceLT,Int.reduceLE,↓u_setN]
 refine (z72 h hB hu 1 (by omega)).Q ?_
 rintro r s' ⟨rfl,h'⟩
 have hb:=yp (k:=1) (by omega) (bad:=lack) (hu.drop at_)
 simp only [↓vcPre,↓z0,↓reduceIte,vcPost,vcStd,Nat.reduceEqDiff,reduceCtorEq,Nat.reduceAdd,Nat.reduceLeDiff,Int.reduceLT,Int.reduceLE,↓u_setN]
 exact EndQ.to _ _ rfl (Store.sub_refl _) ⟨by rw [zd (by unfold I64;omega)],h'⟩
theorem s83 {τ s:Store} {id:Nat} {v:AV} {B:List Int} {at_:Nat} {lack:Bool} (h:RF τ id v B at_ lack s) (hB:B.length≤1000000000) (hu:U8s B):ACalls Tryz.prog 83 [.ptr id 0] s (fun r s'=>r = .int .i64 (numM 2 (B.drop at_) lack).1∧RF τ id v B (at_+(rawM (2:Nat) (B.drop at_) lack).1.length) (numM 2 (B.drop at_) lack).2.2 s'):=by
 refine zg Tst.F83 (by simp [Tst.F83,Fn.mkX]) ?_
 simp only [Tst.F83,Fn.mkX,Tst.b83]
 simp only [↓vcPre,↓z0,↓reduceIte,vcPost,vcStd,Nat.reduceEqDiff,reduceCtorEq,Nat.reduceAdd,Nat.reduceLeDiff,Int.reduceLT,Int.reduceLE,↓u_setN]
 refine (z72 h hB hu 2 (by omega)).Q ?_
 rintro r s' ⟨rfl,h'⟩
 have hb:=yp (k:=2) (by omega) (bad:=lack) (hu.drop at_)
 simp only [↓vcPre,↓z0,↓reduceIte,vcPost,vcStd,Nat.reduceEqDiff,reduceCtorEq,Nat.reduceAdd,Nat.reduceLeDiff,Int.reduceLT,Int.reduceLE,↓u_setN]
 exact EndQ.to _ _ rfl (Store.sub_refl _) ⟨by rw [zd (by unfold I64;omega)],h'⟩
theorem zex {τ s:Store} {id:Nat} {v:AV} {B:List Int} {at_:Nat} {lack:Bool} (h:RF τ id v B at_ lack s) (hB:B.length≤1000000000) (hu:U8s B):ACalls Tryz.prog 127 [.ptr id 0] s (fun r s'=>r = .int .u32 (numM 4 (B.drop at_) lack).1∧RF τ id v B (at_+(rawM (4:Nat) (B.drop at_) lack).1.length) (numM 4 (B.drop at_) lack).2.2 s'):=by
 refine zg Tst.F127 (by simp [Tst.F127,Fn.mkX]) ?_
 simp only [Tst.F127,Fn.mkX,Tst.b127]
 simp only [↓vcPre,↓z0,↓reduceIte,vcPost,vcStd,Nat.reduceEqDiff,reduceCtorEq,Nat.reduceAdd,Nat.reduceLeDiff,Int.reduceLT,Int.reduceLE,↓u_setN]
 refine (z72 h hB hu 4 (by omega)).Q ?_
 rintro r s' ⟨rfl,h'⟩
 simp only [↓vcPre,↓z0,↓reduceIte,vcPost,vcStd,Nat.reduceEqDiff,reduceCtorEq,Nat.reduceAdd,Nat.reduceLeDiff,Int.reduceLT,Int.reduceLE,↓u_setN]
 exact EndQ.to _ _ rfl (Store.sub_refl _) ⟨rfl,h'⟩
end Go.Am
namespace Go.Am
open Go.RowKit
def Imp (x y:AV):Prop:=y.flat=true∧∀ G w v,VRel G w x v→VRel G w y v
theorem Imp.refl {x:AV} (h:x.flat=true):Imp x x:=⟨h,fun _ _ _ h=>h⟩
theorem Imp.nils {esz:Nat}:Imp .nils (.sl esz []):=⟨rfl,fun _ _ _ h=>by have:=h.of_nils;subst this;exact .sl0⟩
abbrev ImpL (xs ys:List AV):Prop:=Rels Imp xs ys
theorem ImpL.refl:∀ (l:List AV),(∀ x ∈ l,x.flat=true)→ImpL l l
 | [],_ => .nil
 | x::l,h => .cons (.refl (h x (by simp))) (ImpL.refl l fun y hy=>h y (by simp [hy]))
theorem ImpL.flat {a b:List AV} (h:ImpL a b):∀ x ∈ b,x.flat=true:=by
 induction h with
 | nil=>simp
 | cons h1 _ ih=>intro x hx;exact (List.mem_cons.1 hx).elim (fun e=>e ▸ h1.1) (ih x)
theorem Imp.sl {esz:Nat} {es es':List (List AV)} (h:Rels ImpL es es'):Imp (.sl esz es) (.sl esz es'):=by
 refine ⟨rfl,fun G w v hv => ?_⟩
 by_cases he:es=[]
 ·subst he
  cases h
  exact hv
 ·have hl:=h.length
  have hne:es'≠[]:=fun e=>he (List.length_eq_zero_iff.1 (by rw [hl,e];rfl))
  have hget:∀ i (hi:i<es.length) (hi':i<es'.length),ImpL es[i] es'[i]:=fun i hi hi'=>by
   obtain ⟨b,hb,hr⟩:=h.get i _ (List.getElem?_eq_getElem hi)
   rw [List.getElem?_eq_getElem hi'] at hb;cases hb;exact hr
  cases hv with
  | sl0=>exact (he rfl).elim
  | sl vs hb hne' hcap hlen hf hc hvv =>
    have hlen':∀ cs ∈ es',cs.length=esz:=fun cs hcs=>by
     obtain ⟨i,hi,rfl⟩:=List.getElem_of_mem hcs
     rw [←(hget i (by omega) hi).length];exact hlen _ (List.getElem_mem _)
    have:=VRel.sl (G:=G) (w:=w) (esz:=esz) (es:=es') vs hb hne (by rw [←hl];exact hcap) hlen'
     (fun cs hcs=>by
       obtain ⟨i,hi,rfl⟩:=List.getElem_of_mem hcs
       exact (hget i (by omega) hi).flat)
     (fun i j hi hj=>hc i j (by omega) hj)
     (fun i j hi hj=>by
       have h1:=hget i (by omega) hi
       obtain ⟨b,hb',hr⟩:=h1.get j _ (List.getElem?_eq_getElem (by rw [h1.length];exact hj))
       rw [List.getElem?_eq_getElem hj] at hb';cases hb'
       exact hr.2 _ _ _ (hvv i j (by omega) (by rw [h1.length];exact hj)))
    rw [hl];exact this
end Go.Am
