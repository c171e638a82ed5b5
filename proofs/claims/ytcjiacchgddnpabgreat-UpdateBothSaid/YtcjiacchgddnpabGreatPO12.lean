/- A part of the proof: a logic for calls over plain values, and the functions that the law reaches, each walked once. -/
import Derived.Test.YtcjiacchgddnpabGreatPO11
set_option linter.unusedVariables false
set_option linter.unusedSimpArgs false
set_option linter.unusedSectionVars false
namespace Go.Am
open Go.Proofs Go.Sort
theorem Own.with {esz:Nat} {τ s:Store} {L:List (List AV)} {v:AV} {b:Nat} {o:Obj} (h:Own esz τ L v s) (hb:s b=none):Own esz (τ.set b o) L v (s.set b o):=by
 rcases h with h | ⟨g,h1,h2,h3⟩
 ·exact .inl h
 ·have hgb:¬ g=b:=fun e=>by rw [e,hb] at h3;cases h3
  exact .inr ⟨g,h1,by rw [Store.set_ne _ _ hgb];exact h2,by rw [Store.set_ne _ _ hgb];exact h3⟩
theorem WI.with {τ s:Store} {id b:Nat} {L:List Int} {o:Obj} (h:WI τ id L s) (hb:s b=none):WI (τ.set b o) id L (s.set b o):=by
 obtain ⟨h1,h2,v,h3,h4⟩:=h
 have hib:¬ id=b:=fun e=>by rw [e,hb] at h3;cases h3
 exact ⟨by rw [Store.set_ne _ _ hib];exact h1,qx h2,v,by rw [Store.set_ne _ _ hib];exact h3,h4.with hb⟩
theorem WI.weak {τ τ' s:Store} {id:Nat} {L:List Int} (h:WI τ' id L s) (hs:Store.sub τ τ'):WI τ id L s:=by
 obtain ⟨h1,h2,v,h3,h4⟩:=h
 exact ⟨zi hs h1,Store.sub_trans hs h2,v,h3,h4.weak hs⟩
theorem qk (l:List Seg) (k:Nat) (h:k<l.length):encPath (l.take (k+1))=encPath (l.take k)++encSeg l[k]:=by
 unfold encPath
 rw [List.take_add_one,List.getElem?_eq_getElem h,List.flatMap_append]
 simp only [Option.toList_some,List.flatMap_cons,List.flatMap_nil,List.append_nil]
theorem z1t {l:List Seg} (h:pathRight l) (k:Nat):pathRight (l.take k):=⟨fun s hs=>h.1 s (List.mem_of_mem_take hs),by rw [List.length_take];have:=h.2;omega⟩
theorem c53 (l:List Seg) (hl:l.length≤1000000) (hr:pathRight l):Pur Tryz.prog 53 [.sl 2 (l.map Seg.c)] (.tup [.sl 1 ((encPath l).map cB),.int .i64 0]):=by
 intro σ
 refine zd Tst.F53 (by simp [Tst.F53,Fn.mkX]) ?_
 simp only [Tst.F53,Fn.mkX,Tst.b53]
 simp only [↓vcPre,↓z0,↓reduceIte,vcPost,vcStd,Nat.reduceEqDiff,reduceCtorEq,Nat.reduceAdd,Nat.reduceLeDiff,Int.reduceLT,Int.reduceLE,↓u_setN]
 refine (c75 l hl).Q ?_
 rw [decide_eq_true hr]
 simp only [↓vcPre,↓z0,↓reduceIte,vcPost,vcStd,Nat.reduceEqDiff,reduceCtorEq,Nat.reduceAdd,Nat.reduceLeDiff,Int.reduceLT,Int.reduceLE,↓u_setN]
 refine (s22 σ).Q ?_
 rintro r s ⟨id,rfl,hW⟩
 simp only [↓vcPre,↓z0,↓reduceIte,vcPost,vcStd,Nat.reduceEqDiff,reduceCtorEq,Nat.reduceAdd,Nat.reduceLeDiff,Int.reduceLT,Int.reduceLE,↓u_setN]
 refine LoopQ.inv (S:=Nat×Store) (fun q=>[(4,.ptr id 0),(13,.sl 2 (l.map Seg.c)),(14,.int .i64 (l.length:Int)),(15,.int .i64 (q.1:Int))]) (fun q=>q.2) (fun q=>q.1≤l.length∧WI σ id (encPath (l.take q.1)) q.2) (fun q=>l.length+1 - q.1) (0,s) rfl (Store.sub_refl _) ⟨by simp only;omega,by simpa [encPath] using hW⟩ ?_
 rintro ⟨k,s⟩ ⟨hk,hW⟩
 simp only at hk hW
 simp only [↓vcPre,↓z0,↓reduceIte,vcPost,vcStd,Nat.reduceEqDiff,reduceCtorEq,Nat.reduceAdd,Nat.reduceLeDiff,Int.reduceLT,Int.reduceLE,↓u_setN]
 have hlen:=wa (z1t hr k)
 refine ⟨fun c1 => ?_,fun c1 => ?_⟩
 ·have ek:IntKind.i64.wrap ((k:Int)+1)=((k+1:Nat):Int):=by rw [z7 (by unfold I64;omega)];omega
  have hsr:=hr.1 _ (List.getElem_mem c1)
  refine ⟨c1,by simp [Seg.c],?_⟩
  refine AllocQ.i0 fun i hi => ?_
  simp only [Seg.c,Store.set_set,↓vcPre,↓z0,↓reduceIte,vcPost,vcStd,Nat.reduceEqDiff,reduceCtorEq,Nat.reduceAdd,Nat.reduceLeDiff,Int.reduceLT,Int.reduceLE,↓u_setN]
  have hT:=hW.with (b:=i) (o := .box [.int .i64 l[k].kind,.sl 1 (l[k].ls.map cU)]) hi
  have hτi:σ i=none:=zi hW.2.1 hi
  have hTi:(σ.set i (.box [.int .i64 l[k].kind,.sl 1 (l[k].ls.map cU)])) i=some (.box [.int .i64 l[k].kind,.sl 1 (l[k].ls.map cU)]):=Store.set_same _ _ _
  have hσT:Store.sub σ (σ.set i (.box [.int .i64 l[k].kind,.sl 1 (l[k].ls.map cU)])):=Store.sub_set _ _ _ hτi
  generalize σ.set i (.box [.int .i64 l[k].kind,.sl 1 (l[k].ls.map cU)])=σ' at hT hTi hσT
  generalize s.set i (.box [.int .i64 l[k].kind,.sl 1 (l[k].ls.map cU)])=T at hT ⊢
  refine (s50 hT (by omega) _).Q ?_
  rintro r s1 ⟨rfl,h1⟩
  simp only [h1.2.1 _ _ hTi,↓vcPre,↓z0,↓reduceIte,vcPost,vcStd,Nat.reduceEqDiff,reduceCtorEq,Nat.reduceAdd,Nat.reduceLeDiff,Int.reduceLT,Int.reduceLE,↓u_setN]
  refine (s50 h1 (by simp [be1];omega) _).Q ?_
  rintro r s2 ⟨rfl,h2⟩
  simp only [h2.2.1 _ _ hTi,↓vcPre,↓z0,↓reduceIte,vcPost,vcStd,Nat.reduceEqDiff,reduceCtorEq,Nat.reduceAdd,Nat.reduceLeDiff,Int.reduceLT,Int.reduceLE,↓u_setN]
  have hseg:=hsr.2.2
  refine LoopQ.inv (S:=Nat×Store) (fun q=>[(4,.ptr id 0),(13,.sl 2 (l.map Seg.c)),(14,.int .i64 (l.length:Int)),(15,.int .i64 (k:Int)),(29,.sl 1 (l[k].ls.map cU)),(30,.int .i64 (l[k].ls.length:Int)),(31,.int .i64 (q.1:Int))]) (fun q=>q.2) (fun q=>q.1≤l[k].ls.length∧WI σ' id (encPath (l.take k)++beN 1 (IntKind.u64.wrap l[k].kind)++beN 1 (IntKind.u64.wrap (l[k].ls.length:Int))++encW (l[k].ls.take q.1)) q.2) (fun q=>l[k].ls.length+1 - q.1) (0,s2) rfl (Store.sub_refl _) ⟨by simp only;omega,by simpa [encW] using h2⟩ ?_
  rintro ⟨j,s3⟩ ⟨hj,h3⟩
  simp only at hj h3
  simp only [↓vcPre,↓z0,↓reduceIte,vcPost,vcStd,Nat.reduceEqDiff,reduceCtorEq,Nat.reduceAdd,Nat.reduceLeDiff,Int.reduceLT,Int.reduceLE,↓u_setN]
  have hle:=zx (l[k].ls.take j)
  rw [List.length_take] at hle
  refine ⟨fun d1 => ?_,fun d1 => ?_⟩
  ·have ej:IntKind.i64.wrap ((j:Int)+1)=((j+1:Nat):Int):=by rw [z7 (by unfold I64;omega)];omega
   refine ⟨d1,by simp [cU],?_⟩
   simp only [cU,↓vcPre,↓z0,↓reduceIte,vcPost,vcStd,Nat.reduceEqDiff,reduceCtorEq,Nat.reduceAdd,Nat.reduceLeDiff,Int.reduceLT,Int.reduceLE,↓u_setN]
   refine (s80 h3 (by simp [be1];omega) _).Q ?_
   rintro r s4 ⟨rfl,h4⟩
   simp only [↓vcPre,↓z0,↓reduceIte,vcPost,vcStd,Nat.reduceEqDiff,reduceCtorEq,Nat.reduceAdd,Nat.reduceLeDiff,Int.reduceLT,Int.reduceLE,↓u_setN]
   rw [ej]
   rw [be4] at h4
   exact NextQ.to (j+1,s4) rfl (Store.sub_refl _) (by simp only;omega) ⟨by simp only;omega,by rw [vw _ _ d1,←List.append_assoc];exact h4⟩
  ·have e:l[k].ls.take j=l[k].ls:=List.take_of_length_le (by omega)
   rw [e] at h3
   rw [ek]
   refine NextQ.to (k+1,s3) rfl (Store.sub_refl _) (by simp only;omega) ⟨by simp only;omega,?_⟩
   simp only
   rw [qk _ _ c1]
   simp only [be1] at h3
   simp only [encSeg,List.append_assoc,List.cons_append,List.nil_append] at h3 ⊢
   exact h3.weak hσT
 ·have e:l.take k=l:=List.take_of_length_le (by omega)
  rw [e] at hW hlen
  refine (s26 hW (by omega)).Q ?_
  rintro r s' ⟨rfl,rfl⟩
  simp only [↓vcPre,↓z0,↓reduceIte,vcPost,vcStd,Nat.reduceEqDiff,reduceCtorEq,Nat.reduceAdd,Nat.reduceLeDiff,Int.reduceLT,Int.reduceLE,↓u_setN]
  exact EndQ.to _ _ rfl hW.2.1 ⟨rfl,rfl⟩
theorem zac {a:At} (h:atRight a):(encA a).length≤20000:=by
 obtain ⟨r1,r2,r3,r4,r5,r6,r7⟩:=h
 have h1:=wa r2
 have h2:=zx a.cms
 unfold encA
 simp only [List.length_append]
 have ol:∀ fl k v,(oneA fl k v).length≤4+v.length:=fun fl k v=>by rw [uu];split <;> omega
 have o1:=ol 64 1 [a.org % 256]
 have o2:=ol 64 2 (encPath a.path)
 have o3:=ol 64 3 (b4 a.nxt)
 have o4:=ol 128 4 (b4 a.med)
 have o5:=ol 64 5 (b4 a.prf)
 have o6:=ol 64 6 []
 have o8:=ol 192 8 (encW a.cms)
 have hb:∀ n,(b4 n).length=4:=fun _=>rfl
 simp only [hb,List.length_cons,List.length_nil] at o1 o2 o3 o4 o5 o6 o8
 split <;> split <;> split <;> split <;> (try simp only [List.length_nil]) <;> omega
def boxC (a:At):Obj := .box [.int .i64 a.org,.sl 2 (a.path.map Seg.c),.int .u32 a.nxt,.bool a.hm,.int .u32 a.med,.bool a.hp,.int .u32 a.prf,.bool a.atm,.sl 1 (a.cms.map cU)]
theorem xd (fl k:Int) (v:List Int):(oneA fl k v).length≤4+v.length:=by rw [uu];split <;> omega
theorem x4 (n:Int):(b4 n).length=4:=rfl
theorem z5t (n:Int):encW [n]=b4 n:=by simp [encW]
theorem z2o (a:At) (ha:a.ok) (h8:a.cms.length≤32) {T s:Store} {i id:Nat} {L:List Int} (hTi:T i=some (boxC a)) (h:WI T id L s) (hL:L.length≤100000) {n r:Env→Store→Prop} {x:Nat→Env→Store→Prop}
 (hr:∀ s',Store.sub T s'→r [(2,.sl 1 ((L++(if a.cms=[] then [] else oneA 192 8 (encW a.cms))).map cB)),(3,.int .i64 0)] s'):bwp Tryz.prog Tsi.t21_52 [(1,.ptr i 0),(4,.ptr id 0)] s n r x:=by
 simp only [Tsi.t21_52]
 have hi:=h.2.1 _ _ hTi
 simp only [hi,boxC,↓vcPre,↓z0,↓reduceIte,vcPost,vcStd,Nat.reduceEqDiff,reduceCtorEq,Nat.reduceAdd,Nat.reduceLeDiff,Int.reduceLT,Int.reduceLE,↓u_setN]
 have hc:=zx a.cms
 refine ⟨fun c1 => ?_,fun c1 => ?_⟩
 ·refine (s54 (l:=a.cms) Rd.sl (by omega)).Q ?_
  rintro r' s' ⟨rfl,rfl⟩
  simp only [↓vcPre,↓z0,↓reduceIte,vcPost,vcStd,Nat.reduceEqDiff,reduceCtorEq,Nat.reduceAdd,Nat.reduceLeDiff,Int.reduceLT,Int.reduceLE,↓u_setN]
  refine (s52 h 8 (by decide) Rd.sl (by omega) (by omega)).Q ?_
  rintro r' s1 ⟨rfl,h1⟩
  simp only [↓vcPre,↓z0,↓reduceIte,vcPost,vcStd,Nat.reduceEqDiff,reduceCtorEq,Nat.reduceAdd,Nat.reduceLeDiff,Int.reduceLT,Int.reduceLE,↓u_setN]
  have hl:=xd (wantOf 8) 8 (encW a.cms)
  refine (s26 h1 (by rw [List.length_append];omega)).Q ?_
  rintro r' s2 ⟨rfl,rfl⟩
  simp only [↓vcPre,↓z0,↓reduceIte,vcPost,vcStd,Nat.reduceEqDiff,reduceCtorEq,Nat.reduceAdd,Nat.reduceLeDiff,Int.reduceLT,Int.reduceLE,↓u_setN]
  have:=hr s2 h1.2.1
  rw [if_neg (fun e=>by rw [e] at c1;simp at c1)] at this
  exact this
 ·refine (s26 h (by omega)).Q ?_
  rintro r' s2 ⟨rfl,rfl⟩
  simp only [↓vcPre,↓z0,↓reduceIte,vcPost,vcStd,Nat.reduceEqDiff,reduceCtorEq,Nat.reduceAdd,Nat.reduceLeDiff,Int.reduceLT,Int.reduceLE,↓u_setN]
  have:=hr s2 h.2.1
  rw [if_pos (List.length_eq_zero_iff.1 (by omega)),List.append_nil] at this
  exact this
theorem z2n (a:At) (ha:a.ok) (h8:a.cms.length≤32) {T s:Store} {i id:Nat} {L:List Int} (hTi:T i=some (boxC a)) (h:WI T id L s) (hL:L.length≤90000) {n r:Env→Store→Prop} {x:Nat→Env→Store→Prop}
 (hr:∀ s',Store.sub T s'→r [(2,.sl 1 ((L++(if a.atm then oneA 64 6 [] else [])++(if a.cms=[] then [] else oneA 192 8 (encW a.cms))).map cB)),(3,.int .i64 0)] s'):bwp Tryz.prog Tsi.t21_48 [(1,.ptr i 0),(4,.ptr id 0)] s n r x:=by
 simp only [Tsi.t21_48]
 have hi:=h.2.1 _ _ hTi
 cases g:a.atm
 ·simp only [hi,boxC,g,↓vcPre,↓z0,↓reduceIte,vcPost,vcStd,Nat.reduceEqDiff,reduceCtorEq,Nat.reduceAdd,Nat.reduceLeDiff,Int.reduceLT,Int.reduceLE,↓u_setN]
  refine z2o a ha h8 hTi h (by omega) fun s' hs' => ?_
  have:=hr s' hs'
  rw [g] at this
  simpa using this
 ·simp only [hi,boxC,g,↓vcPre,↓z0,↓reduceIte,vcPost,vcStd,Nat.reduceEqDiff,reduceCtorEq,Nat.reduceAdd,Nat.reduceLeDiff,Int.reduceLT,Int.reduceLE,↓u_setN]
  refine (s52 h 6 (by decide) (M:=[]) Rd.nils (by omega) (by simp)).Q ?_
  rintro r' s1 ⟨rfl,h1⟩
  simp only [↓vcPre,↓z0,↓reduceIte,vcPost,vcStd,Nat.reduceEqDiff,reduceCtorEq,Nat.reduceAdd,Nat.reduceLeDiff,Int.reduceLT,Int.reduceLE,↓u_setN]
  refine z2o a ha h8 hTi h1 (by have:=xd (wantOf 6) 6 [];simp at this ⊢;omega) fun s' hs' => ?_
  have:=hr s' hs'
  rw [g] at this
  exact this
theorem z2m (a:At) (ha:a.ok) (h8:a.cms.length≤32) {T s:Store} {i id:Nat} {L:List Int} (hTi:T i=some (boxC a)) (h:WI T id L s) (hL:L.length≤80000) {n r:Env→Store→Prop} {x:Nat→Env→Store→Prop}
 (hr:∀ s',Store.sub T s'→r [(2,.sl 1 ((L++(if a.hp then oneA 64 5 (b4 a.prf) else [])++(if a.atm then oneA 64 6 [] else [])++(if a.cms=[] then [] else oneA 192 8 (encW a.cms))).map cB)),(3,.int .i64 0)] s'):bwp Tryz.prog Tsi.t21_40 [(1,.ptr i 0),(4,.ptr id 0)] s n r x:=by
 simp only [Tsi.t21_40]
 have hi:=h.2.1 _ _ hTi
 cases g:a.hp
 ·simp only [hi,boxC,g,↓vcPre,↓z0,↓reduceIte,vcPost,vcStd,Nat.reduceEqDiff,reduceCtorEq,Nat.reduceAdd,Nat.reduceLeDiff,Int.reduceLT,Int.reduceLE,↓u_setN]
  refine z2n a ha h8 hTi h (by omega) fun s' hs' => ?_
  have:=hr s' hs'
  rw [g] at this
  simpa using this
 ·have hTi5:=(h).2.1 _ _ hTi
  simp only [hTi5,boxC,g,↓vcPre,↓z0,↓reduceIte,vcPost,vcStd,Nat.reduceEqDiff,reduceCtorEq,Nat.reduceAdd,Nat.reduceLeDiff,Int.reduceLT,Int.reduceLE,↓u_setN]
  refine AllocQ.i0 fun b hb => ?_
  simp only [↓vcPre,↓z0,↓reduceIte,vcPost,vcStd,Nat.reduceEqDiff,reduceCtorEq,Nat.reduceAdd,Nat.reduceLeDiff,Int.reduceLT,Int.reduceLE,↓u_setN]
  refine (s54 (l:=[a.prf]) (Rd.os (L:=[a.prf].map cU) (Store.set_same _ _ _)) (by simp)).Q ?_
  rintro r s' ⟨rfl,rfl⟩
  rw [z5t]
  simp only [↓vcPre,↓z0,↓reduceIte,vcPost,vcStd,Nat.reduceEqDiff,reduceCtorEq,Nat.reduceAdd,Nat.reduceLeDiff,Int.reduceLT,Int.reduceLE,↓u_setN]
  have hw:=(h).mono (Store.sub_set _ b (.arr 1 [[.int .u32 a.prf]]) hb)
  refine (s52 hw 5 (by decide) Rd.sl (by omega) (by rw [x4];omega)).Q ?_
  rintro r s1 ⟨rfl,h1⟩
  have hl5:=xd (wantOf 5) 5 (b4 a.prf)
  rw [x4] at hl5
  simp only [↓vcPre,↓z0,↓reduceIte,vcPost,vcStd,Nat.reduceEqDiff,reduceCtorEq,Nat.reduceAdd,Nat.reduceLeDiff,Int.reduceLT,Int.reduceLE,↓u_setN]
  refine z2n a ha h8 hTi h1 (by rw [List.length_append];omega) fun s' hs' => ?_
  have:=hr s' hs'
  rw [g] at this
  exact this
theorem z7s (a:At) (ha:a.ok) (h8:a.cms.length≤32) {T s:Store} {i id:Nat} {L:List Int} (hTi:T i=some (boxC a)) (h:WI T id L s) (hL:L.length≤70000) {n r:Env→Store→Prop} {x:Nat→Env→Store→Prop}
 (hr:∀ s',Store.sub T s'→r [(2,.sl 1 ((L++(if a.hm then oneA 128 4 (b4 a.med) else [])++(if a.hp then oneA 64 5 (b4 a.prf) else [])++(if a.atm then oneA 64 6 [] else [])++(if a.cms=[] then [] else oneA 192 8 (encW a.cms))).map cB)),(3,.int .i64 0)] s'):bwp Tryz.prog Tsi.t21_32 [(1,.ptr i 0),(4,.ptr id 0)] s n r x:=by
 simp only [Tsi.t21_32]
 have hi:=h.2.1 _ _ hTi
 cases g:a.hm
 ·simp only [hi,boxC,g,↓vcPre,↓z0,↓reduceIte,vcPost,vcStd,Nat.reduceEqDiff,reduceCtorEq,Nat.reduceAdd,Nat.reduceLeDiff,Int.reduceLT,Int.reduceLE,↓u_setN]
  refine z2m a ha h8 hTi h (by omega) fun s' hs' => ?_
  have:=hr s' hs'
  rw [g] at this
  simpa using this
 ·have hTi4:=(h).2.1 _ _ hTi
  simp only [hTi4,boxC,g,↓vcPre,↓z0,↓reduceIte,vcPost,vcStd,Nat.reduceEqDiff,reduceCtorEq,Nat.reduceAdd,Nat.reduceLeDiff,Int.reduceLT,Int.reduceLE,↓u_setN]
  refine AllocQ.i0 fun b hb => ?_
  simp only [↓vcPre,↓z0,↓reduceIte,vcPost,vcStd,Nat.reduceEqDiff,reduceCtorEq,Nat.reduceAdd,Nat.reduceLeDiff,Int.reduceLT,Int.reduceLE,↓u_setN]
  refine (s54 (l:=[a.med]) (Rd.os (L:=[a.med].map cU) (Store.set_same _ _ _)) (by simp)).Q ?_
  rintro r s' ⟨rfl,rfl⟩
  rw [z5t]
  simp only [↓vcPre,↓z0,↓reduceIte,vcPost,vcStd,Nat.reduceEqDiff,reduceCtorEq,Nat.reduceAdd,Nat.reduceLeDiff,Int.reduceLT,Int.reduceLE,↓u_setN]
  have hw:=(h).mono (Store.sub_set _ b (.arr 1 [[.int .u32 a.med]]) hb)
  refine (s52 hw 4 (by decide) Rd.sl (by omega) (by rw [x4];omega)).Q ?_
  rintro r s1 ⟨rfl,h1⟩
  have hl4:=xd (wantOf 4) 4 (b4 a.med)
  rw [x4] at hl4
  simp only [↓vcPre,↓z0,↓reduceIte,vcPost,vcStd,Nat.reduceEqDiff,reduceCtorEq,Nat.reduceAdd,Nat.reduceLeDiff,Int.reduceLT,Int.reduceLE,↓u_setN]
  refine z2m a ha h8 hTi h1 (by rw [List.length_append];omega) fun s' hs' => ?_
  have:=hr s' hs'
  rw [g] at this
  exact this
set_option maxHeartbeats 600000 in
theorem c21 (a:At) (ha:a.ok):Pur Tryz.prog 21 [.agg a.c] (.tup [.sl 1 ((if atRight a then encA a else []).map cB),.int .i64 (if atRight a then 0 else 12)]):=by
 intro σ
 refine zd Tsi.F21 (by simp [Tsi.F21,Fn.mkX]) ?_
 simp only [Tsi.F21,Fn.mkX,Tsi.b21]
 simp only [↓vcPre,↓z0,↓reduceIte,vcPost,vcStd,Nat.reduceEqDiff,reduceCtorEq,Nat.reduceAdd,Nat.reduceLeDiff,Int.reduceLT,Int.reduceLE,↓u_setN]
 refine AllocQ.i0 fun i hi => ?_
 have e9:∀ x:At,x.c.length=9:=fun _=>rfl
 have t9:∀ x:At,List.take 9 x.c=x.c:=fun _=>rfl
 simp only [e9,t9,Nat.le_refl,↓vcPre,↓z0,↓reduceIte,vcPost,vcStd,Nat.reduceEqDiff,reduceCtorEq,Nat.reduceAdd,Nat.reduceLeDiff,Int.reduceLT,Int.reduceLE,↓u_setN]
 have hsb:=Store.sub_set σ i (.box a.c) hi
 have hTi:(σ.set i (.box a.c)) i=some (boxC a):=Store.set_same _ _ _
 generalize σ.set i (.box a.c)=T at hsb hTi ⊢
 refine (c47 a ha).Q ?_
 by_cases hr:atRight a
 case neg =>
  rw [decide_eq_false hr]
  simp only [↓vcPre,↓z0,↓reduceIte,vcPost,vcStd,Nat.reduceEqDiff,reduceCtorEq,Nat.reduceAdd,Nat.reduceLeDiff,Int.reduceLT,Int.reduceLE,↓u_setN]
  rw [if_neg hr,if_neg hr]
  exact EndQ.twoNil (.int .i64 12) 1 σ rfl hsb ⟨rfl,rfl⟩
 rw [decide_eq_true hr,if_pos hr,if_pos hr]
 have hall:=zac hr
 obtain ⟨r1,r2,r3,r4,r5,r6,r7⟩:=id hr
 have hpl:=wa r2
 simp only [↓vcPre,↓z0,↓reduceIte,vcPost,vcStd,Nat.reduceEqDiff,reduceCtorEq,Nat.reduceAdd,Nat.reduceLeDiff,Int.reduceLT,Int.reduceLE,↓u_setN]
 refine (s22 T).Q ?_
 rintro r s0 ⟨id,rfl,h0⟩
 have hT0:=h0.2.1 _ _ hTi
 simp only [hT0,boxC,↓vcPre,↓z0,↓reduceIte,vcPost,vcStd,Nat.reduceEqDiff,reduceCtorEq,Nat.reduceAdd,Nat.reduceLeDiff,Int.reduceLT,Int.reduceLE,↓u_setN]
 refine AllocQ.i0 fun b hb => ?_
 simp only [↓vcPre,↓z0,↓reduceIte,vcPost,vcStd,Nat.reduceEqDiff,reduceCtorEq,Nat.reduceAdd,Nat.reduceLeDiff,Int.reduceLT,Int.reduceLE,↓u_setN]
 refine (s52 (h0.with (o := .arr 1 [cB (IntKind.u8.wrap a.org)]) hb) 1 (by decide) (M:=[IntKind.u8.wrap a.org]) (Rd.os (Store.set_same _ _ _)) (by simp) (by simp)).Q ?_
 rintro r s1 ⟨rfl,h1⟩
 have h1:=h1.weak (Store.sub_set _ _ _ (zi h0.2.1 hb))
 have hl1:=xd (wantOf 1) 1 [IntKind.u8.wrap a.org]
 have hT1:=h1.2.1 _ _ hTi
 simp only [hT1,boxC,↓vcPre,↓z0,↓reduceIte,vcPost,vcStd,Nat.reduceEqDiff,reduceCtorEq,Nat.reduceAdd,Nat.reduceLeDiff,Int.reduceLT,Int.reduceLE,↓u_setN]
 refine (c53 a.path ha.1 r2).Q ?_
 simp only [↓vcPre,↓z0,↓reduceIte,vcPost,vcStd,Nat.reduceEqDiff,reduceCtorEq,Nat.reduceAdd,Nat.reduceLeDiff,Int.reduceLT,Int.reduceLE,↓u_setN]
 refine (s52 h1 2 (by decide) Rd.sl (by simp at hl1 ⊢;omega) (by omega)).Q ?_
 rintro r s2 ⟨rfl,h2⟩
 have hl2:=xd (wantOf 2) 2 (encPath a.path)
 have hlen2:([]++oneA (wantOf 1) 1 [IntKind.u8.wrap a.org]++oneA (wantOf 2) 2 (encPath a.path)).length≤20000:=by simp at hl1 hl2 ⊢;omega
 simp only [↓vcPre,↓z0,↓reduceIte,vcPost,vcStd,Nat.reduceEqDiff,reduceCtorEq,Nat.reduceAdd,Nat.reduceLeDiff,Int.reduceLT,Int.reduceLE,↓u_setN]
 have hTi2:=(h2).2.1 _ _ hTi
 simp only [hTi2,boxC,e9,↓vcPre,↓z0,↓reduceIte,vcPost,vcStd,Nat.reduceEqDiff,reduceCtorEq,Nat.reduceAdd,Nat.reduceLeDiff,Int.reduceLT,Int.reduceLE,↓u_setN]
 refine AllocQ.i0 fun b hb => ?_
 simp only [↓vcPre,↓z0,↓reduceIte,vcPost,vcStd,Nat.reduceEqDiff,reduceCtorEq,Nat.reduceAdd,Nat.reduceLeDiff,Int.reduceLT,Int.reduceLE,↓u_setN]
 refine (s54 (l:=[a.nxt]) (Rd.os (L:=[a.nxt].map cU) (Store.set_same _ _ _)) (by simp)).Q ?_
 rintro r s' ⟨rfl,rfl⟩
 rw [z5t]
 simp only [↓vcPre,↓z0,↓reduceIte,vcPost,vcStd,Nat.reduceEqDiff,reduceCtorEq,Nat.reduceAdd,Nat.reduceLeDiff,Int.reduceLT,Int.reduceLE,↓u_setN]
 have hw:=(h2).mono (Store.sub_set _ b (.arr 1 [[.int .u32 a.nxt]]) hb)
 refine (s52 hw 3 (by decide) Rd.sl (by omega) (by rw [x4];omega)).Q ?_
 rintro r s3 ⟨rfl,h3⟩
 have hl2:=xd (wantOf 3) 3 (b4 a.nxt)
 rw [x4] at hl2
 simp only [↓vcPre,↓z0,↓reduceIte,vcPost,vcStd,Nat.reduceEqDiff,reduceCtorEq,Nat.reduceAdd,Nat.reduceLeDiff,Int.reduceLT,Int.reduceLE,↓u_setN]
 refine z7s a ha r6 hTi h3 (by rw [List.length_append];omega) fun s' hs' => ?_
 refine EndQ.to _ _ rfl (Store.sub_trans hsb hs') ⟨rfl,?_⟩
 simp only [encA,u8w,List.nil_append]
 rfl
end Go.Am
namespace Go.Am.Tsj
open Go.Proofs Go.Am.B
def t12_39:BC := .seq (z [f 39 8 1,l 40 1 39,u 41 .len 40,c 42 .gtr 41 0] [1,3,42] (.cond (.t 42) (z [k 4 .nils] [1,3,4] (.seq (z [j 5 0] [1,3,4,5] (.block 0 (.loop [1,3,4,5] (.seq (z [m 43 5,f 44 8 1,l 45 1 44,u 46 .len 45,b 47 .lss 43 46] [1,3,4,5,47] (.cond (.t 47) .skip (.exit 0))) (.seq (.block 1 (.ops [m 50 4,f 51 8 1,l 52 1 51,m 53 5,x 54 1 52 53,l 55 1 54,g 56 38 [.t 50,.t 55],m 4 56] [1,3,4,5])) (.ops [m 48 5,c 49 .add 48 1,m 5 49] [1,3,4,5])))))) (.ops [m 57 3,m 58 4,g 59 40 [.t 57,.c (.int .i64 192),.c (.int .i64 8),.t 58],m 3 59] [3]))) .skip)) (z [m 60 3,m 2 60] [2] .ret)
def t12_35:BC := .seq (z [f 35 7 1,l 36 1 35] [1,3,36] (.cond (.t 36) (.ops [m 37 3,g 38 40 [.t 37,.c (.int .i64 64),.c (.int .i64 6),.c .nils],m 3 38] [1,3]) .skip)) t12_39
def t12_28:BC := .seq (z [f 28 5 1,l 29 1 28] [1,3,29] (.cond (.t 29) (.ops [m 30 3,f 31 6 1,l 32 1 31,g 33 38 [.c .nils,.t 32],g 34 40 [.t 30,.c (.int .i64 64),.c (.int .i64 5),.t 33],m 3 34] [1,3]) .skip)) t12_35
def t12_21:BC := .seq (z [f 21 3 1,l 22 1 21] [1,3,22] (.cond (.t 22) (.ops [m 23 3,f 24 4 1,l 25 1 24,g 26 38 [.c .nils,.t 25],g 27 40 [.t 23,.c (.int .i64 128),.c (.int .i64 4),.t 26],m 3 27] [1,3]) .skip)) t12_28
def b12:BC:=z [⟨some 1,none,.alloc (.box),[.t 0]⟩,k 2 .nils] [1] (z [f 6 0 1,l 7 1 6,u 8 (.conv .u8) 7,⟨some 9,none,.alloc (.mksl 1 1),[.t 8]⟩,g 10 40 [.c .nils,.c (.int .i64 64),.c (.int .i64 1),.t 9],m 3 10] [1,3] (z [m 11 3,f 12 1 1,l 13 1 12,g 14 41 [.t 13],g 15 40 [.t 11,.c (.int .i64 64),.c (.int .i64 2),.t 14],m 3 15] [1,3] (z [m 16 3,f 17 2 1,l 18 1 17,g 19 38 [.c .nils,.t 18],g 20 40 [.t 16,.c (.int .i64 64),.c (.int .i64 3),.t 19],m 3 20] [1,3] t12_21)))
def F12:Fn Tryz.prog 12:=Fn.mkX false b12 [.t 2] 61 Tryz.f12 _ Tryz.func12 (by decide) rfl Tryz.ntmps12 (by kernel_rfl) (by kernel_rfl)
end Go.Am.Tsj
namespace Go.Am
open Go.Proofs Go.Sort
theorem z84 {k:IntKind} {a b c d:Int}:alv (.mksl 1 4) [.int k a,.int k b,.int k c,.int k d]=some (.arr 1 [[.int k a],[.int k b],[.int k c],[.int k d]],fun id => .os id 1 0 4):=by rfl
theorem z5h {k:IntKind} {a b c:Int}:alv (.mksl 1 3) [.int k a,.int k b,.int k c]=some (.arr 1 [[.int k a],[.int k b],[.int k c]],fun id => .os id 1 0 3):=by rfl
theorem z75 (x:Int):x.fdiv 65536=x / 65536:=Int.fdiv_eq_ediv_of_nonneg _ (by omega)
theorem z2w (x:Int):x.fdiv 256=x / 256:=Int.fdiv_eq_ediv_of_nonneg _ (by omega)
theorem Own.new {esz i:Nat} {s:Store} {L:List (List AV)} (hi:s i=none):Own esz s L (.os i esz 0 L.length) (s.set i (.arr esz L)) := .inr ⟨i,rfl,hi,Store.set_same _ _ _⟩
theorem s38 {s:Store} {L:List Int} {v:AV} (hr:Rd 1 s (L.map cB) v) (hL:L.length≤100000000) (n:Int):ACalls Tryz.prog 38 [v,.int .u32 n] s (fun r s'=>Store.sub s s'∧Own 1 s ((L++b4 n).map cB) r s'):=by
 refine zd Tst.F38 (by simp [Tst.F38,Fn.mkX]) ?_
 simp only [Tst.F38,Fn.mkX,Tst.b38]
 simp only [↓vcPre,↓z0,↓reduceIte,vcPost,vcStd,Nat.reduceEqDiff,reduceCtorEq,Nat.reduceAdd,Nat.reduceLeDiff,Int.reduceLT,Int.reduceLE,↓u_setN]
 refine AllocQ.i0 fun i hi => ?_
 simp only [↓vcPre,↓z0,↓reduceIte,vcPost,vcStd,Nat.reduceEqDiff,reduceCtorEq,Nat.reduceAdd,Nat.reduceLeDiff,Int.reduceLT,Int.reduceLE,↓u_setN]
 have hsi:=Store.sub_set s i (.arr 1 []) hi
 refine Own.appM (τ:=s) hsi (Own.new (L:=[]) hi) (hr.1 _ hsi) (by simp;omega) fun v1 s1 hs1 ho1 => ?_
 simp only [z84,↓vcPre,↓z0,↓reduceIte,vcPost,vcStd,Nat.reduceEqDiff,reduceCtorEq,Nat.reduceAdd,Nat.reduceLeDiff,Int.reduceLT,Int.reduceLE,↓u_setN]
 refine AllocQ.i0 fun b hb => ?_
 simp only [↓vcPre,↓z0,↓reduceIte,vcPost,vcStd,Nat.reduceEqDiff,reduceCtorEq,Nat.reduceAdd,Nat.reduceLeDiff,Int.reduceLT,Int.reduceLE,↓u_setN]
 have hsb:=Store.sub_set s1 b (.arr 1 [[.int .u8 (IntKind.u8.wrap (shrInt .u32 n 24))],[.int .u8 (IntKind.u8.wrap (shrInt .u32 n 16))],[.int .u8 (IntKind.u8.wrap (shrInt .u32 n 8))],[.int .u8 (IntKind.u8.wrap n)]]) hb
 refine Own.appM (τ:=s) (Store.sub_trans hs1 hsb) (ho1.mono hsb) (zo (Store.set_same _ _ _) rfl) (by simp;omega) fun v2 s2 hs2 ho2 => ?_
 refine EndQ.to _ _ rfl (Store.sub_refl _) ⟨hs2,?_⟩
 simpa [b4,cB,u8w,shrInt,IntKind.bits,z14,z75,z2w] using ho2
theorem s70 {s:Store} {L:List Int} {v:AV} (hr:Rd 1 s (L.map cB) v) (hL:L.length≤100000000) (n:Int):ACalls Tryz.prog 70 [v,.int .i64 n] s (fun r s'=>Store.sub s s'∧Own 1 s ((L++[n / 256 % 256,n % 256]).map cB) r s'):=by
 refine zd Tst.F70 (by simp [Tst.F70,Fn.mkX]) ?_
 simp only [Tst.F70,Fn.mkX,Tst.b70]
 simp only [↓vcPre,↓z0,↓reduceIte,vcPost,vcStd,Nat.reduceEqDiff,reduceCtorEq,Nat.reduceAdd,Nat.reduceLeDiff,Int.reduceLT,Int.reduceLE,↓u_setN]
 refine AllocQ.i0 fun i hi => ?_
 simp only [↓vcPre,↓z0,↓reduceIte,vcPost,vcStd,Nat.reduceEqDiff,reduceCtorEq,Nat.reduceAdd,Nat.reduceLeDiff,Int.reduceLT,Int.reduceLE,↓u_setN]
 have hsi:=Store.sub_set s i (.arr 1 []) hi
 refine Own.appM (τ:=s) hsi (Own.new (L:=[]) hi) (hr.1 _ hsi) (by simp;omega) fun v1 s1 hs1 ho1 => ?_
 refine AllocQ.i0 fun b hb => ?_
 simp only [↓vcPre,↓z0,↓reduceIte,vcPost,vcStd,Nat.reduceEqDiff,reduceCtorEq,Nat.reduceAdd,Nat.reduceLeDiff,Int.reduceLT,Int.reduceLE,↓u_setN]
 have hsb:=Store.sub_set s1 b (.arr 1 [[.int .u8 (IntKind.u8.wrap (shrInt .i64 n 8))],[.int .u8 (IntKind.u8.wrap n)]]) hb
 refine Own.appM (τ:=s) (Store.sub_trans hs1 hsb) (ho1.mono hsb) (zo (Store.set_same _ _ _) rfl) (by simp;omega) fun v2 s2 hs2 ho2 => ?_
 refine EndQ.to _ _ rfl (Store.sub_refl _) ⟨hs2,?_⟩
 simpa [cB,u8w,shrInt,IntKind.bits,z2w] using ho2
theorem c41 (l:List Seg) (hl:l.length≤10000) (ho:∀ s ∈ l,s.ls.length≤1000):Pur Tryz.prog 41 [.sl 2 (l.map Seg.c)] (.sl 1 ((encPath l).map cB)):=by
 intro σ
 refine zd Tst.F41 (by simp [Tst.F41,Fn.mkX]) ?_
 simp only [Tst.F41,Fn.mkX,Tst.b41]
 have hsz:∀ m:List Seg,(∀ s ∈ m,s.ls.length≤1000)→(encPath m).length≤4002*m.length:=by
  intro m
  induction m with
  | nil=>intro _;simp [encPath]
  | cons s r ih =>
    intro h
    have h1:=ih fun x hx=>h x (by simp [hx])
    have h2:=h s (by simp)
    have h3:=zx s.ls
    simp only [encPath,List.flatMap_cons,List.length_append,encSeg,List.length_cons,List.length_nil] at *
    omega
 simp only [↓vcPre,↓z0,↓reduceIte,vcPost,vcStd,Nat.reduceEqDiff,reduceCtorEq,Nat.reduceAdd,Nat.reduceLeDiff,Int.reduceLT,Int.reduceLE,↓u_setN]
 refine LoopQ.inv (S:=Nat×AV×Store) (fun q=>[(0,.sl 2 (l.map Seg.c)),(3,q.2.1),(4,.int .i64 (q.1:Int))]) (fun q=>q.2.2) (fun q=>q.1≤l.length∧Store.sub σ q.2.2∧Own 1 σ ((encPath (l.take q.1)).map cB) q.2.1 q.2.2) (fun q=>l.length+1 - q.1) (0,.nils,σ) rfl (Store.sub_refl _) ⟨by simp only;omega,Store.sub_refl _,by simpa [encPath] using Own.nil⟩ ?_
 rintro ⟨k,v,s⟩ ⟨hk,hs,hO⟩
 simp only at hk hs hO
 have hlk:=hsz (l.take k) fun s h=>ho s (List.mem_of_mem_take h)
 rw [List.length_take] at hlk
 simp only [↓vcPre,↓z0,↓reduceIte,vcPost,vcStd,Nat.reduceEqDiff,reduceCtorEq,Nat.reduceAdd,Nat.reduceLeDiff,Int.reduceLT,Int.reduceLE,↓u_setN]
 refine ⟨fun c1 => ?_,fun c1 => ?_⟩
 ·have ek:IntKind.i64.wrap ((k:Int)+1)=((k+1:Nat):Int):=by rw [z7 (by unfold I64;omega)];omega
  have hls:=ho _ (List.getElem_mem c1)
  refine ⟨c1,c1,by simp [Seg.c],?_⟩
  simp only [Seg.c,↓vcPre,↓z0,↓reduceIte,vcPost,vcStd,Nat.reduceEqDiff,reduceCtorEq,Nat.reduceAdd,Nat.reduceLeDiff,Int.reduceLT,Int.reduceLE,↓u_setN]
  refine AllocQ.i0 fun b hb => ?_
  simp only [↓vcPre,↓z0,↓reduceIte,vcPost,vcStd,Nat.reduceEqDiff,reduceCtorEq,Nat.reduceAdd,Nat.reduceLeDiff,Int.reduceLT,Int.reduceLE,↓u_setN]
  have hsb:=Store.sub_set s b (.arr 1 [[.int .u8 (IntKind.u8.wrap l[k].kind)],[.int .u8 (IntKind.u8.wrap (l[k].ls.length:Int))]]) hb
  refine Own.appM (τ:=σ) (Store.sub_trans hs hsb) (hO.mono hsb) (zo (Store.set_same _ _ _) rfl) (by simp;omega) fun v1 s1 hs1 ho1 => ?_
  refine LoopQ.inv (S:=Nat×AV×Store) (fun q=>[(0,.sl 2 (l.map Seg.c)),(3,q.2.1),(4,.int .i64 (k:Int)),(5,.int .i64 (q.1:Int))]) (fun q=>q.2.2) (fun q=>q.1≤l[k].ls.length∧Store.sub σ q.2.2∧Own 1 σ ((encPath (l.take k)++([l[k].kind % 256,(l[k].ls.length:Int) % 256]++encW (l[k].ls.take q.1))).map cB) q.2.1 q.2.2) (fun q=>l[k].ls.length+1 - q.1) (0,v1,s1) rfl (Store.sub_refl _) ⟨by simp only;omega,hs1,by simpa [encW,cB,u8w] using ho1⟩ ?_
  rintro ⟨j,v2,s2⟩ ⟨hj,hs2,ho2⟩
  simp only at hj hs2 ho2
  have hle:=zx (l[k].ls.take j)
  rw [List.length_take] at hle
  simp only [Seg.c,↓vcPre,↓z0,↓reduceIte,vcPost,vcStd,Nat.reduceEqDiff,reduceCtorEq,Nat.reduceAdd,Nat.reduceLeDiff,Int.reduceLT,Int.reduceLE,↓u_setN]
  refine ⟨c1,fun d1 => ?_,fun d1 => ?_⟩
  ·have ej:IntKind.i64.wrap ((j:Int)+1)=((j+1:Nat):Int):=by rw [z7 (by unfold I64;omega)];omega
   refine ⟨c1,d1,by simp [cU],?_⟩
   simp only [cU,↓vcPre,↓z0,↓reduceIte,vcPost,vcStd,Nat.reduceEqDiff,reduceCtorEq,Nat.reduceAdd,Nat.reduceLeDiff,Int.reduceLT,Int.reduceLE,↓u_setN]
   refine (s38 (Rd.own ho2) (by simp only [List.length_append,List.length_cons,List.length_nil];omega) _).Q ?_
   rintro r s3 ⟨hs3,ho3⟩
   simp only [↓vcPre,↓z0,↓reduceIte,vcPost,vcStd,Nat.reduceEqDiff,reduceCtorEq,Nat.reduceAdd,Nat.reduceLeDiff,Int.reduceLT,Int.reduceLE,↓u_setN]
   rw [ej]
   refine NextQ.to (j+1,r,s3) rfl (Store.sub_refl _) (by simp only;omega) ⟨by simp only;omega,Store.sub_trans hs2 hs3,?_⟩
   simp only
   rw [vw _ _ d1,←List.append_assoc,←List.append_assoc,List.append_assoc (encPath _)]
   exact ho3.weak hs2
  ·have e:l[k].ls.take j=l[k].ls:=List.take_of_length_le (by omega)
   rw [e] at ho2
   rw [ek]
   refine NextQ.to (k+1,v2,s2) rfl (Store.sub_refl _) (by simp only;omega) ⟨by simp only;omega,hs2,?_⟩
   simp only
   rw [qk _ _ c1]
   exact ho2
 ·have e:l.take k=l:=List.take_of_length_le (by omega)
  rw [e] at hO
  exact EndQ.own rfl hO hs ⟨rfl,rfl⟩
theorem vn (fl kind:Int) (M:List Int) (L:List Int):(L++oneA fl kind M).length≤L.length+4+M.length:=by
 rw [List.length_append];have:=xd fl kind M;omega
theorem s40 {τ s:Store} (hτ:Store.sub τ s) {L M:List Int} {v wv:AV} (ho:Own 1 τ (L.map cB) v s) (hw:Rd 1 τ (M.map cB) wv) (hL:L.length≤20000000) (hM:M.length≤20000000) (fl k:Int) (hfl:fl=64∨fl=128∨fl=192) (hk:0≤k∧k≤8) :
 ACalls Tryz.prog 40 [v,.int .i64 fl,.int .i64 k,wv] s (fun r s'=>Store.sub τ s'∧Own 1 τ ((L++oneA fl k M).map cB) r s'):=by
 refine zd Tst.F40 (by simp [Tst.F40,Fn.mkX]) ?_
 simp only [Tst.F40,Fn.mkX,Tst.b40]
 have hlen:pv .len [wv]=some (.int .i64 (M.length:Int)):=by rw [hw.2];simp
 have hor:bitInt .or .i64 fl 16=fl+16∧fl % 256=fl∧(fl+16) % 256=fl+16:=by
  rcases hfl with h | h | h <;> rw [h] <;> decide
 have hk8:k % 256=k:=by omega
 simp only [hlen,z5h,↓vcPre,↓z0,↓reduceIte,vcPost,vcStd,Nat.reduceEqDiff,reduceCtorEq,Nat.reduceAdd,Nat.reduceLeDiff,Int.reduceLT,Int.reduceLE,↓u_setN]
 refine ⟨fun c1 => ?_,fun c1 => ?_⟩
 ·refine AllocQ.i0 fun b hb => ?_
  rw [hor.1]
  simp only [↓vcPre,↓z0,↓reduceIte,vcPost,vcStd,Nat.reduceEqDiff,reduceCtorEq,Nat.reduceAdd,Nat.reduceLeDiff,Int.reduceLT,Int.reduceLE,↓u_setN]
  have hsb:=Store.sub_set s b (.arr 1 [[.int .u8 (IntKind.u8.wrap (fl+16))],[.int .u8 (IntKind.u8.wrap k)]]) hb
  refine Own.appM (τ:=τ) (Store.sub_trans hτ hsb) (ho.mono hsb) (zo (Store.set_same _ _ _) rfl) (by simp;omega) fun v1 s1 hs1 ho1 => ?_
  simp only [hlen,↓vcPre,↓z0,↓reduceIte,vcPost,vcStd,Nat.reduceEqDiff,reduceCtorEq,Nat.reduceAdd,Nat.reduceLeDiff,Int.reduceLT,Int.reduceLE,↓u_setN]
  have ho1':Own 1 τ ((L++[fl+16,k]).map cB) v1 s1:=by simpa [cB,u8w,hor.2.2,hk8] using ho1
  refine (s70 (Rd.own ho1') (by simp;omega) _).Q ?_
  rintro r s2 ⟨hs2,ho2⟩
  simp only [↓vcPre,↓z0,↓reduceIte,vcPost,vcStd,Nat.reduceEqDiff,reduceCtorEq,Nat.reduceAdd,Nat.reduceLeDiff,Int.reduceLT,Int.reduceLE,↓u_setN]
  have hs2':=Store.sub_trans hs1 hs2
  refine Own.appM (τ:=τ) hs2' (ho2.weak hs1) (hw.1 _ hs2') (by simp;omega) fun v3 s3 hs3 ho3 => ?_
  refine EndQ.to _ _ rfl (Store.sub_refl _) ⟨hs3,?_⟩
  unfold oneA
  rw [if_pos (by omega)]
  rw [←List.map_append] at ho3
  simpa using ho3
 ·refine AllocQ.i0 fun b hb => ?_
  simp only [↓vcPre,↓z0,↓reduceIte,vcPost,vcStd,Nat.reduceEqDiff,reduceCtorEq,Nat.reduceAdd,Nat.reduceLeDiff,Int.reduceLT,Int.reduceLE,↓u_setN]
  have hsb:=Store.sub_set s b (.arr 1 [[.int .u8 (IntKind.u8.wrap fl)],[.int .u8 (IntKind.u8.wrap k)],[.int .u8 (IntKind.u8.wrap (M.length:Int))]]) hb
  refine Own.appM (τ:=τ) (Store.sub_trans hτ hsb) (ho.mono hsb) (zo (Store.set_same _ _ _) rfl) (by simp;omega) fun v1 s1 hs1 ho1 => ?_
  refine Own.appM (τ:=τ) hs1 ho1 (hw.1 _ hs1) (by simp;omega) fun v3 s3 hs3 ho3 => ?_
  refine EndQ.to _ _ rfl (Store.sub_refl _) ⟨hs3,?_⟩
  have e:(M.length:Int) % 256=(M.length:Int):=by omega
  unfold oneA
  rw [if_neg (by omega)]
  simpa [cB,u8w,hor.2.1,hk8,e] using ho3
end Go.Am
namespace Go.Am
open Go.Proofs Go.Sort
def num (l:List Int):Int:=l.foldl (fun a b=>a*256+b) 0
theorem z98 (l:List Int) (x:Int):num (l++[x])=num l*256+x:=by simp [num]
theorem z5c:∀ (l:List Int) (a:Int) (m:Nat),U8s l→0≤a→a<256 ^ m→0≤l.foldl (fun a b=>a*256+b) a∧l.foldl (fun a b=>a*256+b) a<256 ^ (m+l.length)
 | [],a,m,_,h1,h2=>⟨h1,h2⟩
 | x::l,a,m,h,h1,h2=>by
   have hx:=h x (by simp)
   have:=z5c l (a*256+x) (m+1) (fun y hy=>h y (by simp [hy])) (by omega) (by rw [Int.pow_succ];omega)
   simp only [List.foldl_cons,List.length_cons]
   rw [show m+(l.length+1)=m+1+l.length by omega]
   exact this
theorem z2f (l:List Int) (h:U8s l):0≤num l∧num l<256 ^ l.length:=by
 have:=z5c l 0 0 h (by omega) (by decide)
 rwa [Nat.zero_add] at this
theorem z7h {n k:Nat} (h:n≤k) (hk:k≤4):(256:Int) ^ n≤256 ^ k:=by
 have h1:n=0∨n=1∨n=2∨n=3∨n=4:=by omega
 have h2:k=0∨k=1∨k=2∨k=3∨k=4:=by omega
 rcases h1 with rfl | rfl | rfl | rfl | rfl <;> rcases h2 with rfl | rfl | rfl | rfl | rfl <;> first | decide | omega
theorem zcz {m d:Nat} (h:d<256):(m*256) ||| d=m*256+d:=by
 have:=Nat.shiftLeft_add_eq_or_of_lt (b:=d) (i:=8) (by omega) m
 rw [Nat.shiftLeft_eq] at this
 exact this.symm
theorem zh1 {n c:Int} (h0:0≤n) (h1:n<72057594037927936) (h2:0≤c) (h3:c<256):bitInt .or .u64 (shlInt .u64 n 8) c=n*256+c:=by
 obtain ⟨m,rfl⟩:=Int.eq_ofNat_of_zero_le h0
 obtain ⟨d,rfl⟩:=Int.eq_ofNat_of_zero_le h2
 have e:shlInt .u64 (m:Int) 8=((m*256:Nat):Int):=by
  simp [shlInt,z1z,IntKind.bits];omega
 rw [e]
 show IntKind.u64.wrap (((BitVec.ofInt 64 ((m*256:Nat):Int)) ||| (BitVec.ofInt 64 (d:Int))).toNat:Int)=_
 have e1:(((m*256:Nat):Int) % ((2 ^ 64:Nat):Int)).toNat=m*256:=by omega
 have e2:((d:Int) % ((2 ^ 64:Nat):Int)).toNat=d:=by omega
 rw [BitVec.toNat_or,BitVec.toNat_ofInt,BitVec.toNat_ofInt,e1,e2,zcz (by omega),z1z];omega
def rawM (n:Int) (R:List Int) (bad:Bool):List Int×List Int×Bool :=
 if bad=true∨(R.length:Int)<n then ([],R,true) else if n<1 then ([],R,false) else (R.take n.toNat,R.drop n.toNat,false)
def numM (k:Nat) (R:List Int) (bad:Bool):Int×List Int×Bool:=(num (rawM k R bad).1,(rawM k R bad).2)
theorem vf {n:Int} {R:List Int} {bad:Bool} (h:U8s R):U8s (rawM n R bad).1∧U8s (rawM n R bad).2.1:=by
 unfold rawM
 split
 ·exact ⟨fun x hx=>by simp at hx,h⟩
 ·split
  ·exact ⟨fun x hx=>by simp at hx,h⟩
  ·exact ⟨h.take _,h.drop _⟩
theorem rawM_len {n:Int} {R:List Int} {bad:Bool}:(rawM n R bad).2.1.length≤R.length∧(rawM n R bad).1.length≤R.length:=by
 unfold rawM
 split
 ·exact ⟨Nat.le_refl _,by simp⟩
 ·split
  ·exact ⟨Nat.le_refl _,by simp⟩
  ·exact ⟨by simp,by simp;omega⟩
theorem qv {k:Nat} {R:List Int} {bad:Bool}:(rawM k R bad).1.length≤k:=by
 unfold rawM
 split
 ·simp
 ·split
  ·simp
  ·simp;omega
def RP (τ:Store) (id:Nat) (R:List Int) (bad:Bool) (s:Store):Prop:=τ id=none∧Store.sub τ s∧s id=some (.box [.sl 1 (R.map cB),.bool bad])
theorem RP.mono {τ s s':Store} {id:Nat} {R:List Int} {bad:Bool} (h:RP τ id R bad s) (hs:Store.sub s s'):RP τ id R bad s':=⟨h.1,Store.sub_trans h.2.1 hs,hs _ _ h.2.2⟩
theorem RP.set {τ s:Store} {id:Nat} {R R':List Int} {bad bad':Bool} (h:RP τ id R bad s):RP τ id R' bad' (s.set id (.box [.sl 1 (R'.map cB),.bool bad'])):=⟨h.1,z5 h.2.1 h.1,Store.set_same _ _ _⟩
theorem s27 {σ:Store} {M:List Int} {v:AV} (hr:Rd 1 σ (M.map cB) v) (hM:M.length≤1000000000):ACalls Tryz.prog 27 [v] σ (fun r s=>∃ id,r = .ptr id 0∧RP σ id M false s):=by
 refine zd Tst.F27 (by simp [Tst.F27,Fn.mkX]) ?_
 simp only [Tst.F27,Fn.mkX,Tst.b27]
 simp only [↓vcPre,↓z0,↓reduceIte,vcPost,vcStd,Nat.reduceEqDiff,reduceCtorEq,Nat.reduceAdd,Nat.reduceLeDiff,Int.reduceLT,Int.reduceLE,↓u_setN]
 refine (s56 hr hM).Q ?_
 rintro r s ⟨rfl,rfl⟩
 simp only [↓vcPre,↓z0,↓reduceIte,vcPost,vcStd,Nat.reduceEqDiff,reduceCtorEq,Nat.reduceAdd,Nat.reduceLeDiff,Int.reduceLT,Int.reduceLE,↓u_setN]
 refine AllocQ.i0 fun id hid => ?_
 simp only [↓vcPre,↓z0,↓reduceIte,vcPost,vcStd,Nat.reduceEqDiff,reduceCtorEq,Nat.reduceAdd,Nat.reduceLeDiff,Int.reduceLT,Int.reduceLE,↓u_setN]
 exact EndQ.to _ _ rfl (Store.sub_refl _) ⟨id,rfl,hid,Store.sub_set _ _ _ hid,Store.set_same _ _ _⟩
theorem s28 {τ s:Store} {id:Nat} {R:List Int} {bad:Bool} (h:RP τ id R bad s) (hR:R.length≤1000000000) (n:Int):ACalls Tryz.prog 28 [.ptr id 0,.int .i64 n] s (fun r s'=>r = .sl 1 ((rawM n R bad).1.map cB)∧RP τ id (rawM n R bad).2.1 (rawM n R bad).2.2 s'):=by
 refine zd Tst.F28 (by simp [Tst.F28,Fn.mkX]) ?_
 simp only [Tst.F28,Fn.mkX,Tst.b28]
 have hs:=h.2.2
 cases bad with
 | true =>
   simp only [hs,↓vcPre,↓z0,↓reduceIte,vcPost,vcStd,Nat.reduceEqDiff,reduceCtorEq,Nat.reduceAdd,Nat.reduceLeDiff,Int.reduceLT,Int.reduceLE,↓u_setN]
   have e:rawM n R true=([],R,true):=by simp [rawM]
   rw [e]
   exact EndQ.nil1 1 _ rfl (Store.sub_refl _) ⟨rfl,h.set⟩
 | false =>
   by_cases g1:(R.length:Int)<n
   ·simp only [hs,g1,↓vcPre,↓z0,↓reduceIte,vcPost,vcStd,Nat.reduceEqDiff,reduceCtorEq,Nat.reduceAdd,Nat.reduceLeDiff,Int.reduceLT,Int.reduceLE,↓u_setN]
    have e:rawM n R false=([],R,true):=by simp [rawM,g1]
    rw [e]
    exact EndQ.nil1 1 _ rfl (Store.sub_refl _) ⟨rfl,h.set⟩
   ·simp only [hs,g1,↓vcPre,↓z0,↓reduceIte,vcPost,vcStd,Nat.reduceEqDiff,reduceCtorEq,Nat.reduceAdd,Nat.reduceLeDiff,Int.reduceLT,Int.reduceLE,↓u_setN]
    refine ⟨fun g2 => ?_,fun g2 => ?_⟩
    ·have e:rawM n R false=([],R,false):=by simp [rawM,g1,g2]
     rw [e]
     exact EndQ.nil1 1 _ rfl (Store.sub_refl _) ⟨rfl,h.set⟩
    ·have e:rawM n R false=(R.take n.toNat,R.drop n.toNat,false):=by simp [rawM,g1,g2]
     rw [e]
     simp only [Option.getD_some,↓vcPre,↓z0,↓reduceIte,vcPost,vcStd,Nat.reduceEqDiff,reduceCtorEq,Nat.reduceAdd,Nat.reduceLeDiff,Int.reduceLT,Int.reduceLE,↓u_setN]
     refine ⟨by omega,?_⟩
     have ht:List.drop (Int.toNat 0) (List.take n.toNat (R.map cB))=(R.take n.toNat).map cB:=by rw [List.map_take];rfl
     rw [ht]
     refine (s56 Rd.sl (by rw [List.length_take];omega)).Q ?_
     rintro r s' ⟨rfl,rfl⟩
     simp only [Option.getD_none,↓vcPre,↓z0,↓reduceIte,vcPost,vcStd,Nat.reduceEqDiff,reduceCtorEq,Nat.reduceAdd,Nat.reduceLeDiff,Int.reduceLT,Int.reduceLE,↓u_setN]
     refine ⟨by omega,?_⟩
     have hd:List.drop n.toNat (List.take R.length (R.map cB))=(R.drop n.toNat).map cB:=by
      rw [List.take_of_length_le (by simp),List.map_drop]
     rw [hd,Store.set_set]
     exact EndQ.to _ _ rfl (Store.sub_refl _) ⟨rfl,h.set⟩
theorem s30 {τ s:Store} {id:Nat} {R:List Int} {bad:Bool} (h:RP τ id R bad s):ACalls Tryz.prog 30 [.ptr id 0] s (fun r s'=>s'=s∧r = .int .i64 (if bad then 0 else (R.length:Int))):=by
 refine zd Tst.F30 (by simp [Tst.F30,Fn.mkX]) ?_
 simp only [Tst.F30,Fn.mkX,Tst.b30]
 have hs:=h.2.2
 cases bad <;> simp only [hs,↓vcPre,↓z0,↓reduceIte,vcPost,vcStd,Nat.reduceEqDiff,reduceCtorEq,Nat.reduceAdd,Nat.reduceLeDiff,Int.reduceLT,Int.reduceLE,↓u_setN] <;> exact EndQ.to _ _ rfl (Store.sub_refl _) ⟨rfl,rfl⟩
theorem s31 {τ s:Store} {id:Nat} {R:List Int} {bad:Bool} (h:RP τ id R bad s):ACalls Tryz.prog 31 [.ptr id 0] s (fun r s'=>s'=s∧r = .bool (!bad)):=by
 refine zd Tst.F31 (by simp [Tst.F31,Fn.mkX]) ?_
 simp only [Tst.F31,Fn.mkX,Tst.b31]
 have hs:=h.2.2
 simp only [hs,↓vcPre,↓z0,↓reduceIte,vcPost,vcStd,Nat.reduceEqDiff,reduceCtorEq,Nat.reduceAdd,Nat.reduceLeDiff,Int.reduceLT,Int.reduceLE,↓u_setN]
 exact EndQ.to _ _ rfl (Store.sub_refl _) ⟨rfl,rfl⟩
theorem s57 {τ s:Store} {id:Nat} {R:List Int} {bad:Bool} (h:RP τ id R bad s) (hR:R.length≤1000000000) (hu:U8s R) (k:Nat) (hk:k≤4):ACalls Tryz.prog 57 [.ptr id 0,.int .i64 (k:Int)] s (fun r s'=>r = .int .u64 (numM k R bad).1∧RP τ id (numM k R bad).2.1 (numM k R bad).2.2 s'):=by
 refine zd Tst.F57 (by simp [Tst.F57,Fn.mkX]) ?_
 simp only [Tst.F57,Fn.mkX,Tst.b57]
 simp only [↓vcPre,↓z0,↓reduceIte,vcPost,vcStd,Nat.reduceEqDiff,reduceCtorEq,Nat.reduceAdd,Nat.reduceLeDiff,Int.reduceLT,Int.reduceLE,↓u_setN]
 refine (s28 h hR _).Q ?_
 rintro r s' ⟨rfl,h'⟩
 have hx:=(vf (n:=(k:Int)) (bad:=bad) hu).1
 have hl:=qv (k:=k) (R:=R) (bad:=bad)
 unfold numM
 generalize rawM (k:Int) R bad=q at h' hx hl ⊢
 simp only [↓vcPre,↓z0,↓reduceIte,vcPost,vcStd,Nat.reduceEqDiff,reduceCtorEq,Nat.reduceAdd,Nat.reduceLeDiff,Int.reduceLT,Int.reduceLE,↓u_setN]
 refine LoopQ.inv (S:=Nat) (fun j=>[(5,.int .u64 (num (q.1.take j))),(10,.sl 1 (q.1.map cB)),(11,.int .i64 (q.1.length:Int)),(12,.int .i64 (j:Int))]) (fun _=>s') (fun j=>j≤q.1.length) (fun j=>q.1.length+1 - j) 0 rfl (Store.sub_refl _) (by omega) ?_
 intro j hj
 simp only [↓vcPre,↓z0,↓reduceIte,vcPost,vcStd,Nat.reduceEqDiff,reduceCtorEq,Nat.reduceAdd,Nat.reduceLeDiff,Int.reduceLT,Int.reduceLE,↓u_setN]
 refine ⟨fun c1 => ?_,fun c1 => ?_⟩
 ·have ej:IntKind.i64.wrap ((j:Int)+1)=((j+1:Nat):Int):=by rw [z7 (by unfold I64;omega)];omega
  refine ⟨c1,by simp [cB],?_⟩
  simp only [cB,↓vcPre,↓z0,↓reduceIte,vcPost,vcStd,Nat.reduceEqDiff,reduceCtorEq,Nat.reduceAdd,Nat.reduceLeDiff,Int.reduceLT,Int.reduceLE,↓u_setN]
  have hb:=z2f _ (hx.take j)
  have h8:=hx _ (List.getElem_mem c1)
  have hp:(256:Int) ^ (q.1.take j).length≤256 ^ 4:=z7h (by rw [List.length_take];omega) (by omega)
  have hw:IntKind.u64.wrap q.1[j]=q.1[j]:=by rw [z1z];omega
  rw [ej,hw,zh1 hb.1 (by omega) h8.1 h8.2]
  refine NextQ.to (j+1) ?_ (Store.sub_refl _) (by omega) (by omega)
  rw [List.take_add_one,List.getElem?_eq_getElem c1,Option.toList_some,z98]
 ·have e:q.1.take j=q.1:=List.take_of_length_le (by omega)
  rw [e]
  exact EndQ.to _ _ rfl (Store.sub_refl _) ⟨rfl,h'⟩
theorem ut {k:Nat} (hk:k≤4) {R:List Int} {bad:Bool} (hu:U8s R):0≤(numM k R bad).1∧(numM k R bad).1<4294967296:=by
 have hx:=(vf (n:=(k:Int)) (bad:=bad) hu).1
 have hl:=qv (k:=k) (R:=R) (bad:=bad)
 have hb:=z2f _ hx
 have hp:(256:Int) ^ (rawM k R bad).1.length≤256 ^ 4:=z7h (by omega) (by omega)
 unfold numM
 simp only
 omega
theorem s58 {τ s:Store} {id:Nat} {R:List Int} {bad:Bool} (h:RP τ id R bad s) (hR:R.length≤1000000000) (hu:U8s R):ACalls Tryz.prog 58 [.ptr id 0] s (fun r s'=>r = .int .i64 (numM 1 R bad).1∧RP τ id (numM 1 R bad).2.1 (numM 1 R bad).2.2 s'):=by
 refine zd Tst.F58 (by simp [Tst.F58,Fn.mkX]) ?_
 simp only [Tst.F58,Fn.mkX,Tst.b58]
 simp only [↓vcPre,↓z0,↓reduceIte,vcPost,vcStd,Nat.reduceEqDiff,reduceCtorEq,Nat.reduceAdd,Nat.reduceLeDiff,Int.reduceLT,Int.reduceLE,↓u_setN]
 refine (s57 h hR hu 1 (by omega)).Q ?_
 rintro r s' ⟨rfl,h'⟩
 have hb:=ut (k:=1) (by omega) (bad:=bad) hu
 simp only [↓vcPre,↓z0,↓reduceIte,vcPost,vcStd,Nat.reduceEqDiff,reduceCtorEq,Nat.reduceAdd,Nat.reduceLeDiff,Int.reduceLT,Int.reduceLE,↓u_setN]
 exact EndQ.to _ _ rfl (Store.sub_refl _) ⟨by rw [z7 (by unfold I64;omega)],h'⟩
theorem s29 {τ s:Store} {id:Nat} {R:List Int} {bad:Bool} (h:RP τ id R bad s) (hR:R.length≤1000000000) (hu:U8s R):ACalls Tryz.prog 29 [.ptr id 0] s (fun r s'=>r = .int .i64 (numM 2 R bad).1∧RP τ id (numM 2 R bad).2.1 (numM 2 R bad).2.2 s'):=by
 refine zd Tst.F29 (by simp [Tst.F29,Fn.mkX]) ?_
 simp only [Tst.F29,Fn.mkX,Tst.b29]
 simp only [↓vcPre,↓z0,↓reduceIte,vcPost,vcStd,Nat.reduceEqDiff,reduceCtorEq,Nat.reduceAdd,Nat.reduceLeDiff,Int.reduceLT,Int.reduceLE,↓u_setN]
 refine (s57 h hR hu 2 (by omega)).Q ?_
 rintro r s' ⟨rfl,h'⟩
 have hb:=ut (k:=2) (by omega) (bad:=bad) hu
 simp only [↓vcPre,↓z0,↓reduceIte,vcPost,vcStd,Nat.reduceEqDiff,reduceCtorEq,Nat.reduceAdd,Nat.reduceLeDiff,Int.reduceLT,Int.reduceLE,↓u_setN]
 exact EndQ.to _ _ rfl (Store.sub_refl _) ⟨by rw [z7 (by unfold I64;omega)],h'⟩
theorem z9d {τ s:Store} {id:Nat} {R:List Int} {bad:Bool} (h:RP τ id R bad s) (hR:R.length≤1000000000) (hu:U8s R):ACalls Tryz.prog 100 [.ptr id 0] s (fun r s'=>r = .int .u32 (numM 4 R bad).1∧RP τ id (numM 4 R bad).2.1 (numM 4 R bad).2.2 s'):=by
 refine zd Tst.F100 (by simp [Tst.F100,Fn.mkX]) ?_
 simp only [Tst.F100,Fn.mkX,Tst.b100]
 simp only [↓vcPre,↓z0,↓reduceIte,vcPost,vcStd,Nat.reduceEqDiff,reduceCtorEq,Nat.reduceAdd,Nat.reduceLeDiff,Int.reduceLT,Int.reduceLE,↓u_setN]
 refine (s57 h hR hu 4 (by omega)).Q ?_
 rintro r s' ⟨rfl,h'⟩
 have hb:=ut (k:=4) (by omega) (bad:=bad) hu
 simp only [↓vcPre,↓z0,↓reduceIte,vcPost,vcStd,Nat.reduceEqDiff,reduceCtorEq,Nat.reduceAdd,Nat.reduceLeDiff,Int.reduceLT,Int.reduceLE,↓u_setN]
 exact EndQ.to _ _ rfl (Store.sub_refl _) ⟨by rw [z6i,Int.emod_eq_of_lt hb.1 hb.2],h'⟩
def RF (τ:Store) (id:Nat) (v:AV) (B:List Int) (at_:Nat) (lack:Bool) (s:Store):Prop:=τ id=none∧Store.sub τ s∧s id=some (.box [v,.int .i64 (at_:Int),.bool lack])∧Rd 1 τ (B.map cB) v∧at_≤B.length
theorem RF.mono {τ s s':Store} {id:Nat} {v:AV} {B:List Int} {at_:Nat} {lack:Bool} (h:RF τ id v B at_ lack s) (hs:Store.sub s s'):RF τ id v B at_ lack s':=⟨h.1,Store.sub_trans h.2.1 hs,hs _ _ h.2.2.1,h.2.2.2⟩
theorem Rd.slice {esz:Nat} {τ:Store} {L:List (List AV)} {v:AV} (h:Rd esz τ L v) {lo hi:Nat} (h1:lo≤hi) (h2:hi≤L.length):∃ v',pSlice esz v (lo:Int) (some (hi:Int))=some v'∧Rd esz τ ((L.take hi).drop lo) v':=by
 rcases h.cases with ⟨rfl,h0⟩ | rfl | ⟨g,o,n,rfl⟩
 ·subst h0
  simp only [List.length_nil] at h2
  refine ⟨.nils,by simp [pSlice];omega,by simpa using Rd.nils⟩
 ·refine ⟨.sl esz ((L.take hi).drop lo),by simp [pSlice];omega,Rd.sl⟩
 ·have hl:=h.2
  simp only [pv,pLen,Option.some.injEq,AV.int.injEq,true_and] at hl
  refine ⟨.os g esz (o+lo) (hi - lo),by simp [pSlice];omega,fun t ht => ?_,by simp [pv,pLen];omega⟩
  have h3:=h.1 t ht
  unfold slc at h3 ⊢
  simp only at h3 ⊢
  split at h3
  ·rename_i e2 es hg
   split at h3
   ·rename_i e;obtain ⟨_,rfl,hle⟩:=e
    have h4:=Option.some.inj h3
    have e3:List.drop lo (List.take n (List.drop o es))=List.take (n - lo) (List.drop (o+lo) es):=by rw [List.drop_take,List.drop_drop]
    rw [if_pos ⟨trivial,rfl,by omega⟩,←h4,List.drop_take,e3,List.take_take,Nat.min_eq_left (by omega)]
   ·cases h3
  ·cases h3
theorem Rd.isTup {esz:Nat} {τ:Store} {L:List (List AV)} {v:AV} (h:Rd esz τ L v):v.isTup=false∧v.cells=[v]:=by
 rcases h.cases with ⟨rfl,_⟩ | rfl | ⟨g,o,n,rfl⟩ <;> exact ⟨rfl,rfl⟩
end Go.Am
namespace Go.Am
def val4 (l:List Int):Int:=n4 (l.getD 0 0) (l.getD 1 0) (l.getD 2 0) (l.getD 3 0)
def szN (n:Int):Nat:=((n+7) / 8).toNat
def decN:Nat→List Int→Option (List (Int×Int))
 | _,[]=>some []
 | 0,_::_=>none
 | f+1,n::r=>if 32<n then none else if r.length<szN n then none else (decN f (r.drop (szN n))).map (ofF (val4 (r.take (szN n))) n :: ·)
def dN (b:List Int):Option (List (Int×Int)):=decN b.length b
theorem z26:∀ (f g:Nat) (b:List Int),b.length≤f→b.length≤g→decN f b=decN g b
 | 0,0,_,_,_=>rfl
 | 0,g+1,[],_,_=>by simp [decN]
 | 0,g+1,_::_,h,_=>by simp at h
 | f+1,0,[],_,_=>by simp [decN]
 | f+1,0,_::_,_,h=>by simp at h
 | f+1,g+1,[],_,_=>by simp [decN]
 | f+1,g+1,n::r,h1,h2=>by
   simp only [decN]
   rw [z26 f g (r.drop (szN n)) (by simp at h1 ⊢;omega) (by simp at h2 ⊢;omega)]
theorem uh:dN []=some []:=rfl
theorem vd (n:Int) (r:List Int):dN (n::r)=if 32<n then none else if r.length<szN n then none else (dN (r.drop (szN n))).map (ofF (val4 (r.take (szN n))) n :: ·):=by
 simp only [dN,List.length_cons,decN]
 rw [z26 r.length (r.drop (szN n)).length _ (by simp) (Nat.le_refl _)]
theorem zfd {M b i m:Nat} (hM:m*2 ^ i=M) (h:b<2 ^ i) (hm:M+b<4294967296):bitInt .or .u32 (M:Int) (b:Int)=((M+b:Nat):Int):=by
 have e:=Nat.shiftLeft_add_eq_or_of_lt h m
 rw [Nat.shiftLeft_eq,hM] at e
 show IntKind.u32.wrap ((BitVec.ofInt 32 (M:Int) ||| BitVec.ofInt 32 (b:Int)).toNat:Int)=_
 have e3:((M:Int) % ((2 ^ 32:Nat):Int)).toNat=M:=by omega
 have e4:((b:Int) % ((2 ^ 32:Nat):Int)).toNat=b:=by omega
 rw [BitVec.toNat_or,BitVec.toNat_ofInt,BitVec.toNat_ofInt,e3,e4,←e,z6i]
 omega
theorem zd6 (x:Int) (hx:0≤x∧x<256) (s:Nat) (hs:s≤24):shlInt .u32 x (s:Int)=x*2 ^ s:=by
 unfold shlInt
 have:min ((s:Int).toNat) IntKind.u32.bits=s:=by simp [IntKind.bits];omega
 rw [this]
 have h1:(2:Int) ^ s≤2 ^ 24:=by
  have:(2:Nat) ^ s≤2 ^ 24:=Nat.pow_le_pow_right (by decide) hs
  exact_mod_cast this
 have h0:(0:Int)≤2 ^ s:=Int.pow_nonneg (by decide)
 have h2:x*2 ^ s≤255*2 ^ s:=Int.mul_le_mul_of_nonneg_right (by omega) h0
 have h3:0≤x*2 ^ s:=Int.mul_nonneg hx.1 h0
 simp only [IntKind.wrap,IntKind.bits,IntKind.signed]
 simp
 omega
theorem z8b {l:List Int} (hl:U8s l) {k:Nat} (hk:k<l.length) (h4:k<4):bitInt .or .u32 (val4 (l.take k)) (shlInt .u32 l[k] (32 - 8*((k:Int)+1)))=val4 (l.take (k+1)):=by
 have st:∀ (M b x s m:Nat),s≤24→b=x*2 ^ s→x<256→m*2 ^ (s+8)=M→M+b<4294967296→bitInt .or .u32 (M:Int) (shlInt .u32 (x:Int) (s:Int))=((M+b:Nat):Int):=by
  intro M b x s m hs hb hx hM hlt
  have h2:b<2 ^ (s+8):=by
   rw [hb,Nat.pow_add,Nat.mul_comm (2 ^ s)]
   exact Nat.mul_lt_mul_of_pos_right hx (Nat.two_pow_pos s)
  rw [zd6 _ ⟨by omega,by omega⟩ s hs]
  have e:(x:Int)*2 ^ s=(b:Int):=by rw [hb];simp
  rw [e]
  exact zfd hM h2 hlt
 have nat:∀ y ∈ l,∃ n:Nat,y=n∧n<256:=fun y hy=>by
  have:=hl y hy
  exact ⟨y.toNat,by omega,by omega⟩
 have hkc:k=0∨k=1∨k=2∨k=3:=by omega
 rcases hkc with rfl | rfl | rfl | rfl
 ·match l,hk with
  | a::l,_ =>
    obtain ⟨a,rfl,ha⟩:=nat a (by simp)
    have:=st 0 (a*16777216) a 24 0 (by omega) (by simp) ha (by simp) (by omega)
    refine Eq.trans ?_ (this.trans ?_)
    ·simp [val4,n4]
    ·simp [val4,n4];omega
 ·match l,hk with
  | a::b::l,_ =>
    obtain ⟨a,rfl,ha⟩:=nat a (by simp)
    obtain ⟨b,rfl,hb⟩:=nat b (by simp)
    have:=st (a*16777216) (b*65536) b 16 a (by omega) (by simp) hb (by simp) (by omega)
    refine Eq.trans (congr (congrArg (bitInt .or .u32) ?_) (congr (congrArg (shlInt .u32) ?_) ?_)) (this.trans ?_)
    ·simp [val4,n4];omega
    ·rfl
    ·rfl
    ·simp [val4,n4];omega
 ·match l,hk with
  | a::b::c::l,_ =>
    obtain ⟨a,rfl,ha⟩:=nat a (by simp)
    obtain ⟨b,rfl,hb⟩:=nat b (by simp)
    obtain ⟨c,rfl,hc⟩:=nat c (by simp)
    have:=st (a*16777216+b*65536) (c*256) c 8 (a*256+b) (by omega) (by simp) hc (by simp;omega) (by omega)
    refine Eq.trans (congr (congrArg (bitInt .or .u32) ?_) (congr (congrArg (shlInt .u32) ?_) ?_)) (this.trans ?_)
    ·simp [val4,n4];omega
    ·rfl
    ·rfl
    ·simp [val4,n4];omega
 ·match l,hk with
  | a::b::c::d::l,_ =>
    obtain ⟨a,rfl,ha⟩:=nat a (by simp)
    obtain ⟨b,rfl,hb⟩:=nat b (by simp)
    obtain ⟨c,rfl,hc⟩:=nat c (by simp)
    obtain ⟨d,rfl,hd⟩:=nat d (by simp)
    have:=st (a*16777216+b*65536+c*256) d d 0 (a*65536+b*256+c) (by omega) (by simp) hd (by simp;omega) (by omega)
    refine Eq.trans (congr (congrArg (bitInt .or .u32) ?_) (congr (congrArg (shlInt .u32) ?_) ?_)) (this.trans ?_)
    ·simp [val4,n4];omega
    ·rfl
    ·rfl
    ·simp [val4,n4];omega
end Go.Am
namespace Go.Am
open Go.Proofs Go.Sort
theorem z6b {σ:Store} {l m:List (Int×Int)} {v w:AV} (hv:Rd 2 σ (l.map pxC) v) (hw:Rd 2 σ (m.map pxC) w) (hl:l.length≤1000000) (hm:m.length≤1000000):ACalls Tryz.prog 14 [v,w] σ (fun r s=>s=σ∧r = .bool (decide (l=m))):=by
 refine zd Tst.F14 (by simp [Tst.F14,Fn.mkX]) ?_
 simp only [Tst.F14,Fn.mkX,Tst.b14]
 have lv:pv .len [v]=some (.int .i64 (l.length:Int)):=by rw [hv.2];simp
 have lw:pv .len [w]=some (.int .i64 (m.length:Int)):=by rw [hw.2];simp
 simp only [lv,lw,↓vcPre,↓z0,↓reduceIte,vcPost,vcStd,Nat.reduceEqDiff,reduceCtorEq,Nat.reduceAdd,Nat.reduceLeDiff,Int.reduceLT,Int.reduceLE,↓u_setN]
 refine ⟨fun c1 => ?_,fun c1 => ?_⟩
 ·exact EndQ.to σ _ rfl (Store.sub_refl _) ⟨rfl,by rw [decide_eq_false (fun e=>c1 (by rw [e]))]⟩
 ·have hlm:l.length=m.length:=by omega
  refine LoopQ.inv (S:=Nat) (fun k=>[(0,v),(1,w),(5,.int .i64 (k:Int))]) (fun _=>σ) (fun k=>k≤l.length∧l.take k=m.take k) (fun k=>l.length+1 - k) 0 rfl (Store.sub_refl _) ⟨by omega,by simp⟩ ?_
  rintro k ⟨hk,hE⟩
  simp only [lv,lw,↓vcPre,↓z0,↓reduceIte,vcPost,vcStd,Nat.reduceEqDiff,reduceCtorEq,Nat.reduceAdd,Nat.reduceLeDiff,Int.reduceLT,Int.reduceLE,↓u_setN]
  refine ⟨fun c2 => ?_,fun c2 => ?_⟩
  ·have ek:IntKind.i64.wrap ((k:Int)+1)=((k+1:Nat):Int):=by rw [z7 (by unfold I64;omega)];omega
   obtain ⟨p,hp,hp2⟩:=hv.at (k:=k) (by simp;omega)
   obtain ⟨q,hq,hq2⟩:=hw.at (k:=k) (by simp;omega)
   have r1:=hp2 σ (Store.sub_refl _) 2
   have r2:=hq2 σ (Store.sub_refl _) 2
   simp only [List.getElem_map] at r1 r2
   have hkl:k<l.length:=by omega
   have hkm:k<m.length:=by omega
   simp only [hp,hq,r1,r2,pxC,↓vcPre,↓z0,↓reduceIte,vcPost,vcStd,Nat.reduceEqDiff,reduceCtorEq,Nat.reduceAdd,Nat.reduceLeDiff,Int.reduceLT,Int.reduceLE,↓u_setN]
   refine ⟨fun c3 => ?_,fun c3 c4 => ?_⟩
   ·refine EndQ.to σ _ rfl (Store.sub_refl _) ⟨rfl,?_⟩
    rw [decide_eq_false]
    intro e
    subst e
    exact c3 ⟨rfl,rfl⟩
   ·rw [ek]
    refine NextQ.to (k+1) rfl (Store.sub_refl _) (by omega) ⟨by omega,?_⟩
    have c3':l[k]=m[k]:=Prod.ext c3 c4
    rw [List.take_succ_eq_append_getElem hkl,List.take_succ_eq_append_getElem hkm,hE,c3']
  ·refine EndQ.to σ _ rfl (Store.sub_refl _) ⟨rfl,?_⟩
   have:k=l.length:=by omega
   subst this
   rw [List.take_length,hlm,List.take_length] at hE
   rw [decide_eq_true hE]
end Go.Am
namespace Go.Am.Tsd
open Go.Proofs Go.Am.B
def t18_34:BC := .ops [m 34 3,⟨some 35,none,.load (.ld 2 true),[.t 5]⟩,⟨some 36,none,.alloc (.mksl 2 1),[.t 35]⟩,⟨some 37,none,.loud (.app 2 32),[.t 34,.t 36]⟩,m 3 37] [1,2,3,4]
def t18_3:BC:=z [k 3 .nils] [1,2,3] (.seq (z [j 4 0] [1,2,3,4] (.block 0 (.loop [1,2,3,4] (.seq (z [m 14 4,f 15 1 1,l 16 1 15,u 17 .len 16,b 18 .lss 14 17] [1,2,3,4,18] (.cond (.t 18) .skip (.exit 0))) (.seq (.block 1 (z [f 21 1 1,l 22 1 21,m 23 4,x 24 2 22 23,⟨some 25,none,.load (.ld 2 true),[.t 24]⟩,⟨some 5,none,.alloc (.alloc [(.int .i64 0),.nils]),[]⟩,s 2 5 25] [1,2,3,4,5] (.seq (z [f 26 1 5,l 27 1 26,u 28 .len 27,c 29 .gtr 28 6] [1,2,3,4,5,29] (.cond (.t 29) (.ops [f 30 1 5,l 31 1 30,p 32 (.slice 1 false true) [.t 31,.c (.int .i64 6)],f 33 1 5,s 1 33 32] [1,2,3,4,5]) .skip)) t18_34))) (.ops [m 19 4,c 20 .add 19 1,m 4 20] [1,2,3,4])))))) (z [m 38 3,f 39 1 1,s 1 39 38] [1,2] (.seq (z [f 40 8 1,l 41 1 40,u 42 .len 41,c 43 .gtr 42 34] [1,2,43] (.cond (.t 43) (.ops [f 44 8 1,l 45 1 44,p 46 (.slice 1 false true) [.t 45,.c (.int .i64 34)],f 47 8 1,s 1 47 46] [1,2]) .skip)) (z [⟨some 48,none,.load (.ld 9 true),[.t 1]⟩,s 9 2 48] [2] .ret))))
def b18:BC:=z [⟨some 1,none,.alloc (.box),[.t 0]⟩,⟨some 2,none,.alloc (.alloc [(.int .i64 0),.nils,(.int .u32 0),(.bool false),(.int .u32 0),(.bool false),(.int .u32 0),(.bool false),.nils]),[]⟩] [1,2] (.seq (z [f 6 1 1,l 7 1 6,u 8 .len 7,c 9 .gtr 8 18] [1,2,9] (.cond (.t 9) (.ops [f 10 1 1,l 11 1 10,p 12 (.slice 2 false true) [.t 11,.c (.int .i64 18)],f 13 1 1,s 1 13 12] [1,2]) .skip)) t18_3)
def F18:Fn Tryz.prog 18:=Fn.mkX false b18 [.c 2 9 true] 49 Tryz.f18 _ Tryz.func18 (by decide) rfl Tryz.ntmps18 (by kernel_rfl) (by kernel_rfl)
end Go.Am.Tsd
