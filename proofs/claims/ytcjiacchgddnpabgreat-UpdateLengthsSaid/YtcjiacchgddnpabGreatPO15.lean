/- A part of the proof: a logic for calls over plain values, and the functions that the law reaches, each walked once. -/
import Derived.Test.YtcjiacchgddnpabGreatPO14
set_option linter.unusedVariables false
set_option linter.unusedSimpArgs false
set_option linter.unusedSectionVars false
namespace Go.Am
open Go.Proofs Go.Sort
def nextF (a:Int):Int:=bitInt .or .u32 3221225984 (Int.tmod a 6)
theorem z97 {a:Int} (h:0≤a):nextF a=3221225984+a % 6:=by
 unfold nextF
 rw [Int.tmod_eq_emod_of_nonneg h]
 have:a % 6=0∨a % 6=1∨a % 6=2∨a % 6=3∨a % 6=4∨a % 6=5:=by omega
 rcases this with h | h | h | h | h | h <;> rw [h] <;> decide
theorem c44 (a:Int):Pur Tryz.prog 44 [.int .u32 a] (.int .u32 (nextF a)):=by
 refine zh Tst.F44 (by simp [Tst.F44,Fn.mkX]) fun σ => ?_
 simp only [Tst.F44,Fn.mkX,Tst.b44]
 simp only [↓vcPre,↓z0,↓reduceIte,vcPost,vcStd,Nat.reduceEqDiff,reduceCtorEq,Nat.reduceAdd,Nat.reduceLeDiff,Int.reduceLT,Int.reduceLE,↓u_setN]
 exact ⟨by omega,rfl⟩
def cutS (s:Seg):Seg:={ s with ls:=s.ls.take 5 }
def okS (s:Seg):Bool:=decide (0<s.ls.length∧(s.kind=1∨s.kind=2))
def rightP (l:List Seg):List Seg:=((l.take 4).map cutS).filter okS
def rightK (a:At):At:=canonA { a with org:=a.org % 3,nxt:=if goodN a.nxt then a.nxt else nextF a.nxt,path:=rightP a.path,cms:=a.cms.take 5 }
theorem zcn {f:Nat} {cells:List AV} (k esz:Nat) {τ s:Store} {L:List (List AV)} {v R:AV} (hs:Store.sub τ s) (ho:Own esz τ L v s) (hk:cells[k]? = some v) (hf:∀ c ∈ cells.set k (.sl esz L),c.flat=true)
 (h:∀ σ',ACalls Tryz.prog f [.agg (cells.set k (.sl esz L))] σ' (fun r s'=>s'=σ'∧r=R)):ACalls Tryz.prog f [.agg cells] s (fun r s'=>r=R∧Store.sub τ s'∧∀ j o,s j=some o→(∀ M,o ≠ .arr esz M)→s' j=some o):=by
 refine ACalls.weakArgs (h s).1 (WeakL.pos 0 rfl (Weak.agg ?_))
 rcases ho with ⟨rfl,rfl⟩ | ⟨g,rfl,hg,hh⟩
 ·refine WeakL.nil k esz hk (WeakL.pure ⟨hf,WeakL.pure ?_⟩)
  exact (h s).mono fun r s' ⟨a,b⟩=>⟨b,a ▸ hs,fun j o hj _=>a ▸ hj⟩
 ·refine WeakL.freeze k hk hh (by omega) (WeakL.pure ?_)
  simp only [List.drop_zero,List.take_length]
  refine ⟨hf,WeakL.pure ?_⟩
  refine (h (s.del g)).mono fun r s' ⟨a,b⟩=>⟨b,a ▸ sub_del hs hg,fun j o hj hn => ?_⟩
  rw [a,Store.del_ne _ (fun e=>by rw [e,hh] at hj;cases hj;exact hn _ rfl)]
  exact hj
def boxV (a:At) (v:AV):Obj := .box [.int .i64 a.org,v,.int .u32 a.nxt,.bool a.hm,.int .u32 a.med,.bool a.hp,.int .u32 a.prf,.bool a.atm,.sl 1 (a.cms.map cU)]
theorem z9k (a:At) (ha:a.ok) {σ s:Store} {i j:Nat} (hij:¬ i=j) (hi0:σ i=none) (hj0:σ j=none) {v z:AV} {w:List AV} (hs:Store.sub σ s) (hi:s i=some (boxV a z)) (hj:s j=some (.box w)) (hw:w.length=9) (P:List Seg) (hP:P.length≤1000000∧∀ s ∈ P,s.ok) (ho:Own 2 σ (P.map Seg.c) v s) {n r:Env→Store→Prop} {x:Nat→Env→Store→Prop}
 (hr:∀ s',Store.sub σ s'→s' j=some (.box (canonA { a with path:=P,cms:=a.cms.take 5 }).c)→r [(2,.ptr j 0)] s'):bwp Tryz.prog Tsm.t17_60 [(1,.ptr i 0),(2,.ptr j 0),(3,v)] s n r x:=by
 simp only [Tsm.t17_60]
 have hji:¬ j=i:=fun e=>hij e.symm
 have hvc:=ho.cell
 rw [boxV] at hi
 simp only [hi,hvc.1,hvc.2,↓vcPre,↓z0,↓reduceIte,vcPost,vcStd,Nat.reduceEqDiff,reduceCtorEq,Nat.reduceAdd,Nat.reduceLeDiff,Int.reduceLT,Int.reduceLE,↓u_setN]
 have ho2:=ho.setId (o':=boxV a v) hi (fun M e=>by cases e)
 have hi2:(s.set i (boxV a v)) i=some (boxV a v):=Store.set_same _ _ _
 have hj2:(s.set i (boxV a v)) j=some (.box w):=by rw [Store.set_ne _ _ hji];exact hj
 have hs2:Store.sub σ (s.set i (boxV a v)):=z5 hs hi0
 have e9:∀ x:At,x.c.length=9:=fun _=>rfl
 have fin:∀ (c:List Int) (T:Store),c=a.cms.take 5→Store.sub σ T→T j=some (.box w)→Own 2 σ (P.map Seg.c) v T→ACalls Tryz.prog 45 [.agg [.int .i64 a.org,v,.int .u32 a.nxt,.bool a.hm,.int .u32 a.med,.bool a.hp,.int .u32 a.prf,.bool a.atm,.sl 1 (c.map cU)]] T
  (fun r s'=>r = .agg (canonA { a with path:=P,cms:=a.cms.take 5 }).c∧Store.sub σ s'∧s' j=some (.box w)):=fun c T hc hT hTj hTo=>by
  subst hc
  refine (zcn 1 2 hT hTo rfl (fun c hc => ?_) (fun σ'=>(c45 { a with path:=P,cms:=a.cms.take 5 } ⟨hP.1,hP.2,by simp;omega⟩ σ'))).mono fun r s' ⟨h1,h2,h3⟩=>⟨h1,h2,h3 j _ hTj (fun M e=>by cases e)⟩
  simp at hc
  rcases hc with rfl | rfl | rfl | rfl | rfl | rfl | rfl | rfl | rfl <;> rfl
 have ends:∀ s',Store.sub σ s'→s' j=some (.box w)→wit (splice 0 (canonA { a with path:=P,cms:=a.cms.take 5 }).c w) (fun cs=>r [(2,.ptr j 0)] (s'.set j (.box cs))):=fun s' h1 h2=>by
  rw [zq _ _ (by rw [hw];rfl),yr]
  exact hr _ (z5 h1 hj0) (Store.set_same _ _ _)
 refine ⟨fun g1=>⟨⟨by simp only [Option.getD_some];omega,by simp only [Option.getD_some];omega⟩,?_⟩,fun g1 => ?_⟩
 ·have e5:List.drop (Int.toNat 0) (List.take ((some (5:Int)).getD (a.cms.length:Int)).toNat (a.cms.map cU))=(a.cms.take 5).map cU:=by rw [List.map_take];rfl
  rw [e5]
  have h3:Store.sub σ (((s.set i (boxV a v)).set i (.box [.int .i64 a.org,v,.int .u32 a.nxt,.bool a.hm,.int .u32 a.med,.bool a.hp,.int .u32 a.prf,.bool a.atm,.sl 1 ((a.cms.take 5).map cU)]))):=z5 hs2 hi0
  refine (fin _ _ rfl h3 (by rw [Store.set_ne _ _ hji];exact hj2) (ho2.setId hi2 (fun M e=>by cases e))).Q ?_
  rintro r' s' ⟨rfl,k1,k2⟩
  simp only [e9,k2,↓vcPre,↓z0,↓reduceIte,vcPost,vcStd,Nat.reduceEqDiff,reduceCtorEq,Nat.reduceAdd,Nat.reduceLeDiff,Int.reduceLT,Int.reduceLE,↓u_setN]
  exact ends s' k1 k2
 ·refine (fin _ _ (List.take_of_length_le (by omega)).symm hs2 hj2 ho2).Q ?_
  rintro r' s' ⟨rfl,k1,k2⟩
  simp only [e9,k2,↓vcPre,↓z0,↓reduceIte,vcPost,vcStd,Nat.reduceEqDiff,reduceCtorEq,Nat.reduceAdd,Nat.reduceLeDiff,Int.reduceLT,Int.reduceLE,↓u_setN]
  exact ends s' k1 k2
theorem z68 (l:List Seg) (h:∀ s ∈ l,s.ok):(rightP l).length≤1000000∧∀ s ∈ rightP l,s.ok:=by
 constructor
 ·have:=List.length_filter_le okS ((l.take 4).map cutS)
  unfold rightP
  simp at this ⊢;omega
 ·intro s hs
  simp only [rightP,List.mem_filter,List.mem_map] at hs
  obtain ⟨⟨t,_,rfl⟩,_⟩:=hs
  simp [Seg.ok,cutS];omega
theorem z9j (a:At) (ha:a.ok) {σ s:Store} {i j:Nat} (hij:¬ i=j) (hi0:σ i=none) (hj0:σ j=none) {w:List AV} (hs:Store.sub σ s) (hi:s i=some (boxV a (.sl 2 (a.path.map Seg.c)))) (hj:s j=some (.box w)) (hw:w.length=9) {n r:Env→Store→Prop} {x:Nat→Env→Store→Prop}
 (hr:∀ s',Store.sub σ s'→s' j=some (.box (canonA { a with path:=rightP a.path,cms:=a.cms.take 5 }).c)→r [(2,.ptr j 0)] s'):bwp Tryz.prog Tsm.t17_3 [(1,.ptr i 0),(2,.ptr j 0)] s n r x:=by
 simp only [Tsm.t17_3]
 simp only [↓vcPre,↓z0,↓reduceIte,vcPost,vcStd,Nat.reduceEqDiff,reduceCtorEq,Nat.reduceAdd,Nat.reduceLeDiff,Int.reduceLT,Int.reduceLE,↓u_setN]
 refine LoopQ.inv (S:=Nat×AV×Store) (fun q=>[(1,.ptr i 0),(2,.ptr j 0),(3,q.2.1),(4,.int .i64 (q.1:Int))]) (fun q=>q.2.2) (fun q=>q.1≤a.path.length∧q.1≤4∧Store.sub s q.2.2∧Own 2 s ((((a.path.take q.1).map cutS).filter okS).map Seg.c) q.2.1 q.2.2) (fun q=>5 - q.1) (0,.nils,s) rfl (Store.sub_refl _) ⟨by simp only;omega,by simp only;omega,Store.sub_refl _,.nil⟩ ?_
 rintro ⟨k,v,s1⟩ ⟨hk,hk4,hs1,ho1⟩
 simp only at hk hk4 hs1 ho1
 have hi1:=hs1 _ _ hi
 rw [boxV] at hi1
 simp only [hi1,↓vcPre,↓z0,↓reduceIte,vcPost,vcStd,Nat.reduceEqDiff,reduceCtorEq,Nat.reduceAdd,Nat.reduceLeDiff,Int.reduceLT,Int.reduceLE,↓u_setN]
 refine ⟨fun c1=>⟨fun c2 => ?_,fun c2 => ?_⟩,fun c1 => ?_⟩
 ·have ek:IntKind.i64.wrap ((k:Int)+1)=((k+1:Nat):Int):=by rw [z7 (by unfold I64;omega)];omega
  refine ⟨c1,by simp [Seg.c],?_⟩
  refine AllocQ.i0 fun b hb => ?_
  simp only [Seg.c,Store.set_set,↓vcPre,↓z0,↓reduceIte,vcPost,vcStd,Nat.reduceEqDiff,reduceCtorEq,Nat.reduceAdd,Nat.reduceLeDiff,Int.reduceLT,Int.reduceLE,↓u_setN]
  have hl5:List.drop (Int.toNat 0) (List.take ((some (5:Int)).getD (a.path[k].ls.length:Int)).toNat (a.path[k].ls.map cU))=(a.path[k].ls.take 5).map cU:=by rw [List.map_take];rfl
  rw [hl5,ek]
  simp only [Option.getD_some]
  have filt:((a.path.take (k+1)).map cutS).filter okS=((a.path.take k).map cutS).filter okS++(if okS (cutS a.path[k]) then [cutS a.path[k]] else []):=by
   rw [List.take_add_one,List.getElem?_eq_getElem c1,Option.toList_some,List.map_append,List.filter_append]
   congr 1
   simp only [List.map_cons,List.map_nil,List.filter_cons,List.filter_nil]
  have hpl:(((a.path.take k).map cutS).filter okS).length≤4:=by
   have:=List.length_filter_le okS ((a.path.take k).map cutS)
   simp at this ⊢;omega
  have yes:∀ (c:List AV),c=(cutS a.path[k]).c→okS (cutS a.path[k])=true→∀ T d,T=s1.set b (.box c)→T d=none→appwp 2 32 v (.os d 2 0 1) (T.set d (.arr 2 [c])) (fun v' s' => @NextQ [(1,.ptr i 0),(2,.ptr j 0),(3,v'),(4,.int .i64 ((k+1:Nat):Int))] s' ⟨fun e' σ'=>∃ s',e'=[(1,.ptr i 0),(2,.ptr j 0),(3,(s':Nat×AV×Store).2.1),(4,.int .i64 (s'.1:Int))]∧Store.sub s'.2.2 σ'∧5 - s'.1<5 - k∧(s'.1≤a.path.length∧s'.1≤4∧Store.sub s s'.2.2∧Own 2 s ((((a.path.take s'.1).map cutS).filter okS).map Seg.c) s'.2.1 s'.2.2)⟩):=by
   intro c hc hok T d hT hd
   subst hT
   have hsb:=Store.sub_trans (Store.sub_set s1 b (.box c) hb) (Store.sub_set _ d (.arr 2 [c]) hd)
   refine Own.app (τ:=s) (Store.sub_trans hs1 hsb) (ho1.mono hsb) (zo (Store.set_same _ _ _) rfl) (by rw [List.length_map];omega) fun v' s' k1 k2 => ?_
   refine NextQ.to (st:=fun q:Nat×AV×Store=>q.2.2) (env:=fun q=>[(1,.ptr i 0),(2,.ptr j 0),(3,q.2.1),(4,.int .i64 (q.1:Int))]) (m:=fun q=>5 - q.1) (s:=(k,v,s1)) (k+1,v',s') rfl (Store.sub_refl _) (by simp only;omega) ⟨by simp only;omega,by simp only;omega,k1,?_⟩
   simp only
   rw [filt,hok,List.map_append,if_pos rfl]
   rw [hc] at k2
   exact k2
  have no:∀ T,Store.sub s1 T→okS (cutS a.path[k])=false → @NextQ [(1,.ptr i 0),(2,.ptr j 0),(3,v),(4,.int .i64 ((k+1:Nat):Int))] T ⟨fun e' σ'=>∃ s',e'=[(1,.ptr i 0),(2,.ptr j 0),(3,(s':Nat×AV×Store).2.1),(4,.int .i64 (s'.1:Int))]∧Store.sub s'.2.2 σ'∧5 - s'.1<5 - k∧(s'.1≤a.path.length∧s'.1≤4∧Store.sub s s'.2.2∧Own 2 s ((((a.path.take s'.1).map cutS).filter okS).map Seg.c) s'.2.1 s'.2.2)⟩:=by
   intro T hT hok
   refine NextQ.to (st:=fun q:Nat×AV×Store=>q.2.2) (env:=fun q=>[(1,.ptr i 0),(2,.ptr j 0),(3,q.2.1),(4,.int .i64 (q.1:Int))]) (m:=fun q=>5 - q.1) (s:=(k,v,s1)) (k+1,v,T) rfl (Store.sub_refl _) (by simp only;omega) ⟨by simp only;omega,by simp only;omega,Store.sub_trans hs1 hT,?_⟩
   simp only
   rw [filt,hok]
   simpa using ho1.mono hT
  have okl:okS (cutS a.path[k])=decide (0<(a.path[k].ls.take 5).length∧(a.path[k].kind=1∨a.path[k].kind=2)):=rfl
  have hlt:(a.path[k].ls.take 5).length=min 5 a.path[k].ls.length:=List.length_take
  refine ⟨fun g1=>⟨by omega,?_⟩,fun g1 => ?_⟩
  ·rw [List.length_map]
   refine ⟨fun g2=>⟨fun g3=>⟨fun g4 => ?_,fun g4 => ?_⟩,fun g3 => ?_⟩,fun g2 => ?_⟩
   ·refine AllocQ.i0 fun d hd => ?_
    simp only [↓vcPre,↓z0,↓reduceIte,vcPost,vcStd,Nat.reduceEqDiff,reduceCtorEq,Nat.reduceAdd,Nat.reduceLeDiff,Int.reduceLT,Int.reduceLE,↓u_setN]
    rw [ek]
    exact yes _ rfl (by rw [okl,decide_eq_true_eq];omega) _ d rfl hd
   ·exact no _ (Store.sub_set _ _ _ hb) (by rw [okl,decide_eq_false_iff_not];omega)
   ·refine AllocQ.i0 fun d hd => ?_
    simp only [↓vcPre,↓z0,↓reduceIte,vcPost,vcStd,Nat.reduceEqDiff,reduceCtorEq,Nat.reduceAdd,Nat.reduceLeDiff,Int.reduceLT,Int.reduceLE,↓u_setN]
    rw [ek]
    exact yes _ rfl (by rw [okl,decide_eq_true_eq];omega) _ d rfl hd
   ·exact no _ (Store.sub_set _ _ _ hb) (by rw [okl,decide_eq_false_iff_not];omega)
  ·have hcc:[AV.int .i64 a.path[k].kind,.sl 1 (a.path[k].ls.map cU)]=(cutS a.path[k]).c:=by
    have:a.path[k].ls.take 5=a.path[k].ls:=List.take_of_length_le (by omega)
    simp [cutS,Seg.c,this]
   refine ⟨fun g2=>⟨fun g3=>⟨fun g4 => ?_,fun g4 => ?_⟩,fun g3 => ?_⟩,fun g2 => ?_⟩
   ·refine AllocQ.i0 fun d hd => ?_
    simp only [↓vcPre,↓z0,↓reduceIte,vcPost,vcStd,Nat.reduceEqDiff,reduceCtorEq,Nat.reduceAdd,Nat.reduceLeDiff,Int.reduceLT,Int.reduceLE,↓u_setN]
    rw [ek]
    exact yes _ hcc (by rw [okl,decide_eq_true_eq];omega) _ d rfl hd
   ·exact no _ (Store.sub_set _ _ _ hb) (by rw [okl,decide_eq_false_iff_not];omega)
   ·refine AllocQ.i0 fun d hd => ?_
    simp only [↓vcPre,↓z0,↓reduceIte,vcPost,vcStd,Nat.reduceEqDiff,reduceCtorEq,Nat.reduceAdd,Nat.reduceLeDiff,Int.reduceLT,Int.reduceLE,↓u_setN]
    rw [ek]
    exact yes _ hcc (by rw [okl,decide_eq_true_eq];omega) _ d rfl hd
   ·exact no _ (Store.sub_set _ _ _ hb) (by rw [okl,decide_eq_false_iff_not];omega)
 all_goals
  have e:a.path.take k=a.path.take 4:=by
   by_cases h:k=4
   ·rw [h]
   ·rw [List.take_of_length_le (by omega),List.take_of_length_le (by omega)]
  rw [e] at ho1
  exact z9k a ha hij hi0 hj0 (Store.sub_trans hs hs1) hi1 (hs1 _ _ hj) hw (rightP a.path) (z68 _ ha.2.1) (ho1.weak hs) hr
set_option maxHeartbeats 400000 in
theorem c17 (a:At) (ha:a.ok) (h64:I64 a.org):Pur Tryz.prog 17 [.agg a.c] (.agg (rightK a).c):=by
 intro σ
 refine zd Tsm.F17 (by simp [Tsm.F17,Fn.mkX]) ?_
 simp only [Tsm.F17,Fn.mkX,Tsm.b17]
 simp only [At.c,↓vcPre,↓z0,↓reduceIte,vcPost,vcStd,Nat.reduceEqDiff,reduceCtorEq,Nat.reduceAdd,Nat.reduceLeDiff,Int.reduceLT,Int.reduceLE,↓u_setN]
 refine AllocQ.i0 fun i hi => ?_
 simp only [At.c,↓vcPre,↓z0,↓reduceIte,vcPost,vcStd,Nat.reduceEqDiff,reduceCtorEq,Nat.reduceAdd,Nat.reduceLeDiff,Int.reduceLT,Int.reduceLE,↓u_setN]
 refine AllocQ.i1 fun j hj1 hj2 hj => ?_
 simp only [hj1,hj2,↓vcPre,↓z0,↓reduceIte,vcPost,vcStd,Nat.reduceEqDiff,reduceCtorEq,Nat.reduceAdd,Nat.reduceLeDiff,Int.reduceLT,Int.reduceLE,↓u_setN]
 refine (c13 a.org 0 2 h64 (by omega) (by omega) (by omega)).Q ?_
 rw [show (0:Int)+a.org % (2 - 0+1)=a.org % 3 by omega]
 simp only [hj1,hj2,↓vcPre,↓z0,↓reduceIte,vcPost,vcStd,Nat.reduceEqDiff,reduceCtorEq,Nat.reduceAdd,Nat.reduceLeDiff,Int.reduceLT,Int.reduceLE,↓u_setN]
 refine (c43 a.nxt).Q ?_
 have key:∀ (m:Int) (t:Store) (z:List AV) (xx:Nat→Env→Store→Prop) (nn:Env→Store→Prop),z.length=9→m=(if goodN a.nxt then a.nxt else nextF a.nxt)→t i=some (boxV { a with org:=a.org % 3,nxt:=m } (.sl 2 (a.path.map Seg.c)))→t j=some (.box z)→Store.sub σ t →
  bwp Tryz.prog Tsm.t17_3 [(1,.ptr i 0),(2,.ptr j 0)] t nn (fun e s => @EndQ e s ⟨Tsm.F17.slots,fun r s=>s=σ∧r = .agg (rightK a).c⟩) xx:=by
  intro m t z xx nn hz hm h1 h2 h3
  subst hm
  refine z9j { a with org:=a.org % 3,nxt:=if goodN a.nxt then a.nxt else nextF a.nxt } ⟨ha.1,ha.2.1,ha.2.2⟩ hj2 hi hj h3 h1 h2 hz fun s' k1 k2 => ?_
  refine EndQ.to σ (.agg (rightK a).c) ?_ k1 ⟨rfl,rfl⟩
  show Env.res [(2,AV.ptr j 0)] s' [RS.c 2 9 true]=_
  have e9:∀ x:At,x.c.length=9:=fun _=>rfl
  have t9:∀ x:At,List.take 9 x.c=x.c:=fun _=>rfl
  simp only [k2,e9,t9,Nat.le_refl,↓vcPre,↓z0,↓reduceIte,vcPost,vcStd,Nat.reduceEqDiff,reduceCtorEq,Nat.reduceAdd,Nat.reduceLeDiff,Int.reduceLT,Int.reduceLE,↓u_setN]
  rfl
 have hs2:=zk (o:=Obj.box a.c) (p := .box zCells) hi hj hj1
 by_cases g:goodN a.nxt
 ·rw [decide_eq_true g]
  simp only [hj1,hj2,↓vcPre,↓z0,↓reduceIte,vcPost,vcStd,Nat.reduceEqDiff,reduceCtorEq,Nat.reduceAdd,Nat.reduceLeDiff,Int.reduceLT,Int.reduceLE,↓u_setN]
  refine key a.nxt _ zCells _ _ rfl (by rw [if_pos g]) (by rw [Store.set_same];rfl) (by rw [Store.set_ne _ _ hj1,Store.set_same];rfl) (z5 hs2 hi)
 ·rw [decide_eq_false g]
  simp only [hj1,hj2,↓vcPre,↓z0,↓reduceIte,vcPost,vcStd,Nat.reduceEqDiff,reduceCtorEq,Nat.reduceAdd,Nat.reduceLeDiff,Int.reduceLT,Int.reduceLE,↓u_setN]
  refine (c44 a.nxt).Q ?_
  simp only [hj1,hj2,↓vcPre,↓z0,↓reduceIte,vcPost,vcStd,Nat.reduceEqDiff,reduceCtorEq,Nat.reduceAdd,Nat.reduceLeDiff,Int.reduceLT,Int.reduceLE,↓u_setN]
  refine key (nextF a.nxt) _ zCells _ _ rfl (by rw [if_neg g]) (by rw [Store.set_same];rfl) (by rw [Store.set_ne _ _ hj1,Store.set_ne _ _ hj1,Store.set_same];rfl) (z5 (z5 hs2 hi) hi)
end Go.Am
namespace Go.Am
theorem z37 {a:At} (h:atRight a):canonA a=a:=by
 obtain ⟨_,_,_,h4,h5,_,h7⟩:=h
 obtain ⟨o,p,n,hm,m,hp',q,t,c⟩:=a
 simp only at h4 h5 h7
 unfold canonA
 simp only [z4a h7,At.mk.injEq,true_and,and_true]
 constructor
 ·cases hm <;> simp_all
 ·cases hp' <;> simp_all
theorem z60 {l:List Int} (h:l.Pairwise (· < ·)):l.mergeSort leI=l:=(z0v (List.Perm.refl l) (h.imp fun h=>by omega)).symm
def typesA (inner:Bool) (a:At):List Int:=[1,2,3]++(if a.hm then [4] else [])++(if a.hp && inner then [5] else [])++(if a.atm then [6] else [])++(if a.cms=[] then [] else [8])
theorem z7v (inner:Bool) (a:At):(keepI inner (itsA a)).map It.k=typesA inner a:=by
 unfold keepI itsA typesA
 cases inner <;> cases a.hm <;> cases a.hp <;> cases a.atm <;> by_cases h:a.cms=[] <;> simp [h]
theorem z6h (inner:Bool) (a:At):(typesA inner a).Pairwise (· < ·):=by
 unfold typesA
 cases inner <;> cases a.hm <;> cases a.hp <;> cases a.atm <;> by_cases h:a.cms=[] <;> simp [h]
def outA (inner:Bool) (a:At):At:=if inner then a else { a with hp:=false,prf:=0 }
theorem z65 {a:At} (h:atRight a) (inner:Bool):atRight (outA inner a):=by
 unfold outA
 cases inner
 ·obtain ⟨h1,h2,h3,h4,h5,h6,h7⟩:=h
  exact ⟨h1,h2,h3,h4,fun _=>rfl,h6,h7⟩
 ·exact h
theorem z4x {a:At} (hr:atRight a) (hn:okNums a) (inner:Bool):decA inner (encA a) = .ok (outA inner a,typesA inner a):=by
 obtain ⟨h1,h2⟩:=zar hr hn
 have h:=z0p inner (itsA a) [] zeroAt [] [] h1 h2 (by simp)
 rw [List.append_nil,←z8p,z3c] at h
 rw [z4w,h]
 simp only [List.nil_append,z7v,z60 (z6h inner a)]
 obtain ⟨s1,s2⟩:=z9e hr hn
 have e:(keepI inner (itsA a)).foldl (fun a i=>setV i.k i.v a) zeroAt=outA inner a:=by
  unfold outA
  cases inner
  ·exact s2
  ·exact s1
 rw [e,z37 (z65 hr inner)]
theorem qt {a:At} (h:okNums a):okNums (shortA a):=by
 obtain ⟨h1,h2,h3,h4,h5⟩:=h
 refine ⟨h1,h2,h3,fun x hx=>h4 x (List.mem_of_mem_take hx),fun s hs => ?_⟩
 simp only [shortA,List.mem_map] at hs
 obtain ⟨t,ht,rfl⟩:=hs
 exact fun x hx=>h5 t (List.mem_of_mem_take ht) x (List.mem_of_mem_take hx)
theorem z1a {a:Int} (h:0≤a):goodN (nextF a)∧0≤nextF a∧nextF a<4294967296:=by
 rw [z97 h]
 have h1:=Int.emod_nonneg a (b:=6) (by omega)
 have h2:=Int.emod_lt_of_pos a (b:=6) (by omega)
 have e:(3221225984+a % 6) / 16777216=192:=by omega
 refine ⟨?_,by omega,by omega⟩
 unfold goodN
 rw [e];omega
theorem z3x {a:At} (h:okNums a):atRight (rightK a):=by
 obtain ⟨h1,_⟩:=h
 refine ⟨?_,⟨fun s hs => ?_,?_⟩,?_,?_,?_,?_,up _⟩
 ·show 0≤a.org % 3∧a.org % 3≤2
  omega
 ·simp only [rightK,canonA,rightP] at hs
  obtain ⟨h2,h3⟩:=List.mem_filter.mp hs
  simp only [List.mem_map] at h2
  obtain ⟨x,_,rfl⟩:=h2
  unfold okS at h3
  rw [decide_eq_true_eq] at h3
  have:(cutS x).ls.length≤5:=by simp only [cutS,List.length_take];omega
  exact ⟨h3.2,h3.1,by omega⟩
 ·have:=List.length_filter_le okS (((a.path).take 4).map cutS)
  simp only [List.length_map,List.length_take] at this
  show (rightP a.path).length≤16
  unfold rightP
  omega
 ·show goodN (if goodN a.nxt then a.nxt else nextF a.nxt)
  split
  ·assumption
  ·exact (z1a h1.1).1
 ·intro hm
  show (if (a.hm:Bool) then a.med else 0)=0
  have:a.hm=false:=hm
  simp [this]
 ·intro hm
  show (if (a.hp:Bool) then a.prf else 0)=0
  have:a.hp=false:=hm
  simp [this]
 ·have:=v7 (a.cms.take 5)
  simp only [List.length_take] at this
  show (canonC (a.cms.take 5)).length≤32
  omega
theorem z4j {a:At} (h:okNums a):okNums (rightK a):=by
 obtain ⟨h1,h2,h3,h4,h5⟩:=h
 refine ⟨?_,?_,?_,fun x hx => ?_,fun s hs => ?_⟩
 ·show 0≤(if goodN a.nxt then a.nxt else nextF a.nxt)∧(if goodN a.nxt then a.nxt else nextF a.nxt)<4294967296
  split
  ·exact h1
  ·exact (z1a h1.1).2
 ·show 0≤(if (a.hm:Bool) then a.med else 0)∧(if (a.hm:Bool) then a.med else 0)<4294967296
  split <;> omega
 ·show 0≤(if (a.hp:Bool) then a.prf else 0)∧(if (a.hp:Bool) then a.prf else 0)<4294967296
  split <;> omega
 ·have hx':x ∈ canonC (a.cms.take 5):=hx
  rw [canonC_mem] at hx'
  exact h4 x (List.mem_of_mem_take hx')
 ·simp only [rightK,canonA,rightP] at hs
  have h2:=(List.mem_filter.mp hs).1
  simp only [List.mem_map] at h2
  obtain ⟨t,ht,rfl⟩:=h2
  exact fun x hx=>h5 t (List.mem_of_mem_take ht) x (List.mem_of_mem_take hx)
theorem uf {a:At} (h:okNums a):atRight (rightK (shortA a))∧okNums (rightK (shortA a)) :=
 ⟨z3x (qt h),z4j (qt h)⟩
end Go.Am
namespace Go.Am
open Go.Proofs Go.Sort
def byL (L:List Int):List UInt8:=L.map fun n=>UInt8.ofNat n.toNat
theorem z2s:∀ (L:List Int) (acc:List UInt8),toBytes (L.map cB) acc=some (acc.reverse++byL L)
 | [],acc=>by simp [toBytes,byL]
 | x::L,acc=>by
   show toBytes ([.int .u8 x]::L.map cB) acc=_
   simp only [toBytes]
   rw [z2s L];simp [byL]
theorem z7a {τ:Store} {L:List Int} {v:AV} (h:Rd 1 τ (L.map cB) v) {t:Store} (ht:Store.sub τ t):ldv .str [v] t=some (.str ⟨(byL L).toArray⟩):=by
 simp only [ldv,h.1 t ht,Option.bind_some,z2s,List.reverse_nil,List.nil_append,Option.map_some]
end Go.Am
namespace Go.Am
open Go.Proofs Go.Sort
theorem z02 (inner:Bool):∀ (f:Nat) (b:List Int) (a:At) (S ty:List Int) (a':At) (ty':List Int),decL inner f b a S ty = .ok (a',ty')→U8s b→b.length≤1000000→a.ok→a'.ok∧ty'.length≤ty.length+b.length
 | _,[],a,_,ty,a',ty',h,_,_,ha=>by
   simp only [decL] at h;cases h;exact ⟨ha,by omega⟩
 | 0,_::_,_,_,_,_,_,h,_,_,_=>by simp only [decL] at h;cases h
 | f+1,x::r,a,S,ty,a',ty',h,hu,hb,ha=>by
   simp only [decL] at h
   cases hc:chunk (x::r) with
   | none=>rw [hc] at h;cases h
   | some c =>
     rw [hc] at h
     simp only at h
     have hl:=wi hc
     have cu:=z38 hu hc
     split at h
     ·cases h
     ·split at h
      ·have:=z02 inner f c.rest a _ _ _ _ h cu.2.1 (by omega) ha
       exact ⟨this.1,by omega⟩
      ·cases hs:stepA c a with
       | error n=>rw [hs] at h;cases h
       | ok a2 =>
         rw [hs] at h
         have:=z02 inner f c.rest a2 _ _ _ _ h cu.2.1 (by omega) (z0w hs ha (by omega))
         refine ⟨this.1,?_⟩
         have h2:=this.2
         simp only [List.length_append,List.length_singleton] at h2
         omega
theorem z7e (inner:Bool) {B:List Int} (hu:U8s B) (hB:B.length≤1000000):∃ (A:At) (T:List Int) (p q:Int) (M:List Int),A.ok∧T.length≤1000000∧outD (decA inner B) = .tup [.agg A.c,.sl 1 (T.map cI),.agg [.int .i64 p,.int .i64 q,.sl 1 (M.map cB)]]:=by
 unfold decA
 cases h:decL inner B.length B zeroAt [] [] with
 | error n=>exact ⟨zeroAt,[],3,n.1,n.2,yg,by simp,rfl⟩
 | ok x =>
   obtain ⟨a,ty⟩:=x
   have:=z02 inner _ _ _ _ _ _ _ h hu hB yg
   exact ⟨canonA a,ty.mergeSort leI,0,0,[],vr this.1,by have:=this.2;simp only [List.length_mergeSort];simp at this;omega,rfl⟩
end Go.Am
namespace Go.Am
open Go.Proofs Go.Sort
theorem z4z (l:List Int):U8s (encW l):=by
 intro x hx
 simp only [encW,List.mem_flatMap] at hx
 obtain ⟨n,_,h⟩:=hx
 exact z0y n x h
theorem z5s (l:List Seg):U8s (encPath l):=by
 intro x hx
 simp only [encPath,List.mem_flatMap] at hx
 obtain ⟨s,_,h⟩:=hx
 simp only [encSeg,List.mem_append,List.mem_cons,List.not_mem_nil,or_false] at h
 rcases h with (rfl | rfl) | h
 ·omega
 ·omega
 ·exact z4z _ x h
theorem z5r {l:List Seg} (h:∀ s ∈ l,s.ls.length≤5):(encPath l).length≤22*l.length:=by
 induction l with
 | nil=>simp [encPath]
 | cons s l ih =>
   have h1:=h s (by simp)
   have h2:=ih fun x hx=>h x (by simp [hx])
   have h3:=zx s.ls
   simp only [encPath,List.flatMap_cons,List.length_append,encSeg,List.length_cons,List.length_nil] at h2 ⊢
   omega
theorem w5 {fl k:Int} {v:List Int} (h1:0≤fl∧fl<240) (h2:0≤k∧k<256) (h3:U8s v):U8s (oneA fl k v):=by
 intro x hx
 unfold oneA at hx
 rcases List.mem_append.1 hx with h | h
 ·split at h
  ·simp only [List.mem_cons,List.not_mem_nil,or_false] at h;omega
  ·simp only [List.mem_cons,List.not_mem_nil,or_false] at h;omega
 ·exact h3 x h
theorem z4y (a:At):U8s (encA a):=by
 have e1:U8s (oneA 64 1 [a.org % 256]):=w5 (by omega) (by omega) fun x hx=>by simp only [List.mem_singleton] at hx;omega
 have e2:=w5 (fl:=64) (k:=2) (by omega) (by omega) (z5s a.path)
 have e3:=w5 (fl:=64) (k:=3) (by omega) (by omega) (z0y a.nxt)
 have e4:U8s (if a.hm then oneA 128 4 (b4 a.med) else []):=by
  split
  ·exact w5 (by omega) (by omega) (z0y _)
  ·intro x hx;simp at hx
 have e5:U8s (if a.hp then oneA 64 5 (b4 a.prf) else []):=by
  split
  ·exact w5 (by omega) (by omega) (z0y _)
  ·intro x hx;simp at hx
 have e6:U8s (if a.atm then oneA 64 6 [] else []):=by
  split
  ·exact w5 (by omega) (by omega) fun x hx=>by simp at hx
  ·intro x hx;simp at hx
 have e8:U8s (if a.cms=[] then [] else oneA 192 8 (encW a.cms)):=by
  split
  ·intro x hx;simp at hx
  ·exact w5 (by omega) (by omega) (z4z _)
 unfold encA
 exact (((((e1.append e2).append e3).append e4).append e5).append e6).append e8
theorem yy (fl k:Int) (v:List Int):3≤(oneA fl k v).length∧(oneA fl k v).length≤4+v.length:=by
 rw [uu];split <;> omega
theorem z67 (a:At):4≤(encA (rightK a)).length∧(encA (rightK a)).length≤1000:=by
 have hp:(rightK a).path.length≤4∧∀ s ∈ (rightK a).path,s.ls.length≤5:=by
  constructor
  ·have:=List.length_filter_le okS ((a.path.take 4).map cutS)
   simp only [rightK,canonA,rightP]
   simp only [List.length_map,List.length_take] at this
   omega
  ·intro s hs
   simp only [rightK,canonA,rightP] at hs
   have h2:=(List.mem_filter.mp hs).1
   simp only [List.mem_map] at h2
   obtain ⟨x,_,rfl⟩:=h2
   unfold cutS;simp only [List.length_take];omega
 have hc:(rightK a).cms.length≤5:=by
  simp only [rightK,canonA]
  have:=v7 (a.cms.take 5)
  simp only [List.length_take] at this
  omega
 generalize rightK a=r at hp hc ⊢
 have h1:=z5r hp.2
 have h2:=zx r.cms
 have b:∀ n,(b4 n).length=4:=fun _=>rfl
 unfold encA
 simp only [List.length_append]
 have z1:=yy 64 1 [r.org % 256]
 have z1e:(oneA 64 1 [r.org % 256]).length=4:=rfl
 have z2:=yy 64 2 (encPath r.path)
 have z3:=yy 64 3 (b4 r.nxt)
 have z3b:=b r.nxt
 have q4:(if r.hm=true then oneA 128 4 (b4 r.med) else []).length≤8:=by
  split
  ·have:=(yy 128 4 (b4 r.med)).2;have:=(yy 64 5 (b4 r.prf)).2;have:=b r.med;have:=b r.prf;omega
  ·simp
 have q5:(if r.hp=true then oneA 64 5 (b4 r.prf) else []).length≤8:=by
  split
  ·have:=(yy 128 4 (b4 r.med)).2;have:=(yy 64 5 (b4 r.prf)).2;have:=b r.med;have:=b r.prf;omega
  ·simp
 have q6:(if r.atm=true then oneA 64 6 [] else []).length≤8:=by
  split
  ·have:=(yy 64 6 []).2;simp only [List.length_nil] at this;omega
  ·simp
 have q8:(if r.cms=[] then [] else oneA 192 8 (encW r.cms)).length≤24:=by
  split
  ·simp
  ·have:=(yy 192 8 (encW r.cms)).2;omega
 omega
end Go.Am
namespace Go.Am
open Go.Proofs Go.Sort
theorem w7:[AV.int .i64 0,.nils,.int .u32 0,.bool false,.int .u32 0,.bool false,.int .u32 0,.bool false,.nils]=zC:=rfl
theorem x8:[AV.int .i64 0,.int .i64 0,.nils]=zN:=rfl
theorem zaa {f:Nat} {a:AV} {cells cells':List AV} {s:Store} {Q:AV→Store→Prop} (hi:ImpL cells cells') (h:ACalls Tryz.prog f [a,.agg cells'] s Q):ACalls Tryz.prog f [a,.agg cells] s Q :=
 ACalls.weakArgs h.1 (WeakL.pos 1 rfl (Imp.agg hi (WeakL.pure h)))
theorem z69 (a:At):encOk (shortA a):=by
 refine ⟨by simp only [shortA,List.length_map,List.length_take];omega,fun s hs => ?_,by simp only [shortA,List.length_take];omega⟩
 simp only [shortA,List.mem_map] at hs
 obtain ⟨x,_,rfl⟩:=hs
 simp only [shortS,List.length_take];omega
theorem encOk.ok {a:At} (h:encOk a):a.ok:=⟨by have:=h.1;omega,fun s hs=>by have:=h.2.1 s hs;show s.ls.length≤_;omega,by have:=h.2.2;omega⟩
theorem zd2 (a:At):encOk (rightK (shortA a))∧(rightK (shortA a)).path.length≤4∧(∀ s ∈ (rightK (shortA a)).path,s.ls.length≤5)∧(rightK (shortA a)).cms.length≤5:=by
 have h1:(rightK (shortA a)).path.length≤4:=by
  have:=List.length_filter_le okS (((shortA a).path.take 4).map cutS)
  simp only [rightK,canonA,rightP]
  simp only [List.length_map,List.length_take] at this
  omega
 have h2:∀ s ∈ (rightK (shortA a)).path,s.ls.length≤5:=fun s hs=>by
  simp only [rightK,canonA,rightP] at hs
  have h2:=(List.mem_filter.mp hs).1
  simp only [List.mem_map] at h2
  obtain ⟨x,_,rfl⟩:=h2
  unfold cutS;simp only [List.length_take];omega
 have h3:(rightK (shortA a)).cms.length≤5:=by
  simp only [rightK,canonA]
  have:=v7 ((shortA a).cms.take 5)
  simp only [List.length_take] at this
  omega
 exact ⟨⟨by omega,fun s hs=>by have:=h2 s hs;omega,by omega⟩,h1,h2,h3⟩
end Go.Am
namespace Go.Am.Tsy
open Go.Proofs Go.Am.B
def t6_56:BC:=z [f 56 11 3,l 57 1 56,u 58 .len 57,c 59 .gtr 58 0,f 60 1 3,s 1 60 59] [1,2,3] (z [p 61 (.build [(.int .i64 0),.nils,(.int .u32 0),(.bool false),(.int .u32 0),(.bool false),(.int .u32 0),(.bool false),.nils] []) [],f 62 2 3,s 9 62 61] [1,2,3] (.seq (z [f 63 1 3,l 64 1 63] [1,2,3,64] (.cond (.t 64) (.ops [f 65 5 1,⟨some 66,none,.load (.ld 9 true),[.t 65]⟩,g 67 18 [.t 66],g 68 17 [.t 67],f 69 2 3,s 9 69 68] [2,3]) .skip)) (z [⟨some 70,none,.load (.ld 12 true),[.t 3]⟩,s 12 2 70] [2] .ret)))
def t6_5:BC := .seq (z [j 5 0] [1,2,3,5] (.block 2 (.loop [1,2,3,5] (.seq (z [m 32 5,f 33 11 3,l 34 1 33,u 35 .len 34,b 36 .lss 32 35] [1,2,3,5,36] (.cond (.t 36) .skip (.exit 2))) (.seq (.block 3 (.ops [f 39 11 3,m 41 5,f 42 11 3,m 44 5,f 48 11 3,m 50 5,l 40 1 39,l 43 1 42,x 45 2 43 44,f 46 0 45,l 47 1 46,l 49 1 48,x 51 2 49 50,f 52 1 51,l 53 1 52,⟨some 54,none,.qcall 16,[.t 47,.t 53]⟩,x 55 2 40 41,s 2 55 54] [1,2,3,5])) (.ops [m 37 5,c 38 .add 37 1,m 5 38] [1,2,3,5])))))) t6_56
def b6:BC:=z [⟨some 1,none,.alloc (.box),[.t 0]⟩,⟨some 2,none,.alloc (.alloc [.nils,(.bool false),(.int .i64 0),.nils,(.int .u32 0),(.bool false),(.int .u32 0),(.bool false),(.int .u32 0),(.bool false),.nils,.nils]),[]⟩] [1,2] (z [⟨some 6,none,.load (.ld 14 true),[.t 1]⟩,g 7 15 [.t 6],⟨some 3,none,.alloc (.alloc [.nils,(.bool false),(.int .i64 0),.nils,(.int .u32 0),(.bool false),(.int .u32 0),(.bool false),(.int .u32 0),(.bool false),.nils,.nils]),[]⟩,s 12 3 7] [1,2,3] (.seq (z [j 4 0] [1,2,3,4] (.block 0 (.loop [1,2,3,4] (.seq (z [m 8 4,f 9 0 3,l 10 1 9,u 11 .len 10,b 12 .lss 8 11] [1,2,3,4,12] (.cond (.t 12) .skip (.exit 0))) (.seq (.block 1 (.ops [f 15 0 3,m 17 4,f 18 0 3,m 20 4,f 24 0 3,m 26 4,l 16 1 15,l 19 1 18,x 21 2 19 20,f 22 0 21,l 23 1 22,l 25 1 24,x 27 2 25 26,f 28 1 27,l 29 1 28,⟨some 30,none,.qcall 16,[.t 23,.t 29]⟩,x 31 2 16 17,s 2 31 30] [1,2,3,4])) (.ops [m 13 4,c 14 .add 13 1,m 4 14] [1,2,3,4])))))) t6_5))
def F6:Fn Tryz.prog 6:=Fn.mkX false b6 [.c 2 12 true] 71 Tryz.f6 _ Tryz.func6 (by decide) rfl Tryz.ntmps6 (by kernel_rfl) (by kernel_rfl)
def t15_80:BC:=z [⟨some 80,none,.load (.ld 12 true),[.t 3]⟩,s 12 2 80] [2] .ret
def t15_5:BC := .seq (z [j 5 0] [1,2,3,5] (.block 2 (.loop [1,2,3,5] (.seq (z [m 46 5,f 47 1 1,l 48 1 47,u 49 .len 48,b 50 .lss 46 49,m 51 50,⟨some 52,some (51,true),.pure (.mov),[.t 5]⟩,⟨some 53,some (51,true),.pure (.fld 3),[.t 1]⟩,⟨some 54,some (51,true),.load (.ld 1 false),[.t 53]⟩,⟨some 55,some (51,true),.pure (.len),[.t 54]⟩,⟨some 56,some (51,true),.pure (.bin .lss),[.t 52,.t 55]⟩,⟨some 57,none,.pick,[.t 51,.t 56,.c (.bool false)]⟩,m 58 57,⟨some 59,some (58,true),.pure (.mov),[.t 5]⟩,⟨some 60,some (58,true),.pure (.bin .lss),[.t 59,.c (.int .i64 20)]⟩,⟨some 61,none,.pick,[.t 58,.t 60,.c (.bool false)]⟩] [1,2,3,5,61] (.cond (.t 61) .skip (.exit 2))) (.seq (.block 3 (.ops [f 64 11 3,f 66 1 1,m 68 5,f 71 3 1,m 73 5,l 65 1 64,l 67 1 66,x 69 1 67 68,l 70 1 69,l 72 1 71,x 74 1 72 73,l 75 1 74,p 76 (.build [(.int .u32 0),(.int .i64 0)] [(0,1),(1,1)]) [.t 70,.t 75],⟨some 77,none,.alloc (.mksl 2 1),[.t 76]⟩,⟨some 78,none,.loud (.app 2 16),[.t 65,.t 77]⟩,f 79 11 3,s 1 79 78] [1,2,3,5])) (.ops [m 62 5,c 63 .add 62 1,m 5 63] [1,2,3,5])))))) t15_80
def b15:BC:=z [⟨some 1,none,.alloc (.box),[.t 0]⟩,⟨some 2,none,.alloc (.alloc [.nils,(.bool false),(.int .i64 0),.nils,(.int .u32 0),(.bool false),(.int .u32 0),(.bool false),(.int .u32 0),(.bool false),.nils,.nils]),[]⟩] [1,2] (z [f 6 4 1,f 8 5 1,l 7 1 6,⟨some 9,none,.load (.ld 9 true),[.t 8]⟩,⟨some 10,none,.qcall 18,[.t 9]⟩,p 11 (.build [.nils,(.bool false),(.int .i64 0),.nils,(.int .u32 0),(.bool false),(.int .u32 0),(.bool false),(.int .u32 0),(.bool false),.nils,.nils] [(1,1),(2,9)]) [.t 7,.t 10],⟨some 3,none,.alloc (.alloc [.nils,(.bool false),(.int .i64 0),.nils,(.int .u32 0),(.bool false),(.int .u32 0),(.bool false),(.int .u32 0),(.bool false),.nils,.nils]),[]⟩,s 12 3 11] [1,2,3] (.seq (z [j 4 0] [1,2,3,4] (.block 0 (.loop [1,2,3,4] (.seq (z [m 12 4,f 13 0 1,l 14 1 13,u 15 .len 14,b 16 .lss 12 15,m 17 16,⟨some 18,some (17,true),.pure (.mov),[.t 4]⟩,⟨some 19,some (17,true),.pure (.fld 2),[.t 1]⟩,⟨some 20,some (17,true),.load (.ld 1 false),[.t 19]⟩,⟨some 21,some (17,true),.pure (.len),[.t 20]⟩,⟨some 22,some (17,true),.pure (.bin .lss),[.t 18,.t 21]⟩,⟨some 23,none,.pick,[.t 17,.t 22,.c (.bool false)]⟩,m 24 23,⟨some 25,some (24,true),.pure (.mov),[.t 4]⟩,⟨some 26,some (24,true),.pure (.bin .lss),[.t 25,.c (.int .i64 20)]⟩,⟨some 27,none,.pick,[.t 24,.t 26,.c (.bool false)]⟩] [1,2,3,4,27] (.cond (.t 27) .skip (.exit 0))) (.seq (.block 1 (.ops [f 30 0 3,f 32 0 1,m 34 4,f 37 2 1,m 39 4,l 31 1 30,l 33 1 32,x 35 1 33 34,l 36 1 35,l 38 1 37,x 40 1 38 39,l 41 1 40,p 42 (.build [(.int .u32 0),(.int .i64 0)] [(0,1),(1,1)]) [.t 36,.t 41],⟨some 43,none,.alloc (.mksl 2 1),[.t 42]⟩,⟨some 44,none,.loud (.app 2 16),[.t 31,.t 43]⟩,f 45 0 3,s 1 45 44] [1,2,3,4])) (.ops [m 28 4,c 29 .add 28 1,m 4 29] [1,2,3,4])))))) t15_5))
def F15:Fn Tryz.prog 15:=Fn.mkX false b15 [.c 2 12 true] 81 Tryz.f15 _ Tryz.func15 (by decide) rfl Tryz.ntmps15 (by kernel_rfl) (by kernel_rfl)
end Go.Am.Tsy
namespace Go.Am
open Go.Proofs Go.Sort
structure Raw9 where
 w:List Int
 n:List Int
 wl:List Int
 nl:List Int
 has:Bool
 a:At
def Raw9.c (x:Raw9):List AV := .sl 1 (x.w.map cU) :: .sl 1 (x.n.map cU) :: .sl 1 (x.wl.map cI) :: .sl 1 (x.nl.map cI) :: .bool x.has::x.a.c
def upC (wv:AV) (has:Bool) (a:At) (nv:AV):List AV:=wv :: .bool has::(a.c++[nv])
def madeP (l m:List Int):List (Int×Int):=(l.zip m).take 20
def Apart (v w:AV):Prop:=∀ g a b,v = .os g 2 0 a→w ≠ .os g 2 0 b
theorem qg {l m:List Int} {k:Nat} (h1:k<l.length) (h2:k<m.length):(l.zip m).take (k+1)=(l.zip m).take k++[(l[k],m[k])]:=by
 rw [List.take_succ_eq_append_getElem (by simp;omega),List.getElem_zip]
theorem z01 {l m:List Int} {k:Nat} (h:¬ (k<l.length∧k<m.length∧k<20)) (hk:k≤20):(l.zip m).take k=madeP l m:=by
 unfold madeP
 by_cases h20:k=20
 ·rw [h20]
 ·rw [List.take_of_length_le (by rw [List.length_zip];omega),List.take_of_length_le (by rw [List.length_zip];omega)]
theorem qy {x:Raw9} (hn:(x.n.length:Int)<4611686018427387904) (hnl:(x.nl.length:Int)<4611686018427387904) {σ s:Store} {p1 p2 p3:Nat} (h23:¬ p1=p3) (h13:¬ p2=p3) (h2:σ p2=none) (h3:σ p3=none) (i5:Store.sub σ s) (i6:s p1=some (.box x.c)) {z:List AV} (i7:s p2=some (.box z)) {wv:AV}
 (i8:s p3=some (.box (upC wv x.has (shortA x.a) .nils))) {W:List (List AV)} (i4:Own 2 σ W wv s) (hzl:z.length=12) {k:Nat} {b:Bool} {n rr:Env→Store→Prop} {xx:Nat→Env→Store→Prop}
 (hr:∀ nv t,Store.sub σ t→Own 2 σ W wv t→Own 2 σ ((madeP x.n x.nl).map pxC) nv t→Apart wv nv→t p2=some (.box (upC wv x.has (shortA x.a) nv))→rr [(2,.ptr p2 0)] t) :
 bwp Tryz.prog Tsy.t15_5 [(1,.ptr p1 0),(2,.ptr p2 0),(3,.ptr p3 0),(4,.int .i64 (k:Int)),(27,.bool b)] s n rr xx:=by
 simp only [Tsy.t15_5]
 have e14:x.c.length=14:=rfl
 have e12:∀ (v:AV) (b:Bool) (a:At) (w:AV),(upC v b a w).length=12:=fun _ _ _ _=>rfl
 have g1:List.take 1 (List.drop 1 x.c)=[.sl 1 (x.n.map cU)]:=rfl
 have g3:List.take 1 (List.drop 3 x.c)=[.sl 1 (x.nl.map cI)]:=rfl
 have q11:∀ v w,List.take 1 (List.drop 11 (upC v x.has (shortA x.a) w))=[w]:=fun _ _=>rfl
 have k11:∀ v w u,splice 11 [u] (upC v x.has (shortA x.a) w)=some (upC v x.has (shortA x.a) u):=fun _ _ _=>rfl
 have u12:∀ v w,List.take 12 (upC v x.has (shortA x.a) w)=upC v x.has (shortA x.a) w:=fun _ _=>rfl
 have ek:∀ {k:Nat},k≤20→IntKind.i64.wrap ((k:Int)+1)=((k+1:Nat):Int):=fun h=>by rw [z7 (by unfold I64;omega)];omega
 have hd3:∀ q o,q≠p3→s q=some o→(s.del p3) q=some o:=fun q o hq h=>by rw [Store.del_ne _ hq];exact h
 have h32:¬ p3=p2:=fun e=>h13 e.symm
 simp only [↓vcPre,↓z0,↓reduceIte,vcPost,vcStd,Nat.reduceEqDiff,reduceCtorEq,Nat.reduceAdd,Nat.reduceLeDiff,Int.reduceLT,Int.reduceLE,↓u_setN]
 refine LoopQ.inv (S:=Nat×AV×Store) (fun w=>[(1,.ptr p1 0),(2,.ptr p2 0),(3,.ptr p3 0),(5,.int .i64 (w.1:Int))]) (fun w=>w.2.2)
  (fun w=>w.1≤20∧w.1≤x.n.length∧w.1≤x.nl.length∧Own 2 (s.del p3) (((x.n.zip x.nl).take w.1).map pxC) w.2.1 w.2.2∧Store.sub (s.del p3) w.2.2∧w.2.2 p3=some (.box (upC wv x.has (shortA x.a) w.2.1)))
  (fun w=>21 - w.1) (0,.nils,s) rfl (Store.sub_refl _) ⟨by omega,by omega,by omega,Own.nil,ym _ _,i8⟩ ?_
 rintro ⟨m,nv,t⟩ ⟨j1,j2,j3,j4,j5,j6⟩
 simp only at j1 j2 j3 j4 j5 j6
 have t1:=j5 _ _ (hd3 _ _ h23 i6)
 have t2:=j5 _ _ (hd3 _ _ h13 i7)
 have p30:(s.del p3) p3=none:=by simp
 have fin:∀ c:Bool,¬ (m<x.n.length∧m<x.nl.length∧m<20)→bwp Tryz.prog Tsy.t15_80 [(1,.ptr p1 0),(2,.ptr p2 0),(3,.ptr p3 0),(5,.int .i64 (m:Int)),(61,.bool c)] t n rr xx:=by
  intro c hb
  rw [z01 hb j1] at j4
  simp only [Tsy.t15_80]
  have spU:splice 0 (upC wv x.has (shortA x.a) nv) z=some (upC wv x.has (shortA x.a) nv):=zq _ _ (by rw [hzl];rfl)
  simp only [j6,t2,e12,u12,spU,↓vcPre,↓z0,↓reduceIte,vcPost,vcStd,Nat.reduceEqDiff,reduceCtorEq,Nat.reduceAdd,Nat.reduceLeDiff,Int.reduceLT,Int.reduceLE,↓u_setN]
  have sd:Store.sub σ (s.del p3):=sub_del i5 h3
  have hw':Own 2 σ W wv (s.del p3):=i4.delBox i8
  have hap:Apart wv nv:=by
   rintro g a b rfl e
   rcases i4 with ⟨_,h⟩ | ⟨g1,h,_,hs⟩
   ·cases h
   ·cases h
    rcases j4 with ⟨_,h⟩ | ⟨g2,h,hg2,_⟩
    ·rw [h] at e;cases e
    ·rw [h] at e;cases e
     rw [Store.del_ne _ (fun e=>by rw [e,i8] at hs;cases hs),hs] at hg2
     cases hg2
  exact hr nv _ (z5 (Store.sub_trans sd j5) h2) ((hw'.mono j5).setId t2 (fun M e=>by cases e)) ((j4.weak sd).setId t2 (fun M e=>by cases e)) hap (Store.set_same _ _ _)
 simp only [t1,j6,g1,g3,e14,e12,q11,cI,cU,↓vcPre,↓z0,↓reduceIte,vcPost,vcStd,Nat.reduceEqDiff,reduceCtorEq,Nat.reduceAdd,Nat.reduceLeDiff,Int.reduceLT,Int.reduceLE,↓u_setN]
 refine ⟨fun a1=>⟨fun a2=>⟨fun a3=>⟨a1,a2,?_⟩,fun a3=>fin _ (by omega)⟩,fun a2=>fin _ (by omega)⟩,fun a1=>fin _ (by omega)⟩
 refine AllocQ.i0 fun q hq => ?_
 simp only [↓vcPre,↓z0,↓reduceIte,vcPost,vcStd,Nat.reduceEqDiff,reduceCtorEq,Nat.reduceAdd,Nat.reduceLeDiff,Int.reduceLT,Int.reduceLE,↓u_setN]
 have hsq:=Store.sub_set t q (.arr 2 [[.int .u32 x.n[m],.int .i64 x.nl[m]]]) hq
 refine Own.appK (τ:=s.del p3) (Store.sub_trans j5 hsq) (j4.mono hsq) (zo (Store.set_same _ _ _) rfl) (by simp;omega) fun v' s' a b c => ?_
 have hv:=b.cell
 have s3:=c _ _ (hsq _ _ j6) (fun M e=>by cases e)
 simp only [s3,k11,hv.1,hv.2,ek j1,e12,↓vcPre,↓z0,↓reduceIte,vcPost,vcStd,Nat.reduceEqDiff,reduceCtorEq,Nat.reduceAdd,Nat.reduceLeDiff,Int.reduceLT,Int.reduceLE,↓u_setN]
 refine NextQ.to (m+1,v',s'.set p3 (.box (upC wv x.has (shortA x.a) v'))) rfl (Store.sub_refl _) (by simp only;omega) ?_
 refine ⟨by simp only;omega,by simp only;omega,by simp only;omega,?_,z5 a p30,Store.set_same _ _ _⟩
 rw [qg a1 a2,List.map_append]
 exact b.setId s3 (fun M e=>by cases e)
set_option maxHeartbeats 1000000 in
theorem zh5 (x:Raw9) (hw:Small x.w) (hn:Small x.n) (hwl:Small x.wl) (hnl:Small x.nl) (σ:Store):ACalls Tryz.prog 15 [.agg x.c] σ (fun r s=>∃ wv nv,r = .agg (upC wv x.has (shortA x.a) nv)∧Store.sub σ s ∧
 Own 2 σ ((madeP x.w x.wl).map pxC) wv s∧Own 2 σ ((madeP x.n x.nl).map pxC) nv s∧Apart wv nv):=by
 refine zd Tsy.F15 (by simp [Tsy.F15,Fn.mkX]) ?_
 simp only [Tsy.F15,Fn.mkX,Tsy.b15]
 have e14:x.c.length=14:=rfl
 have f4:List.take 1 (List.drop 4 x.c)=[.bool x.has]:=rfl
 have f5:List.take 9 (List.drop 5 x.c)=x.a.c:=rfl
 simp only [↓vcPre,↓z0,↓reduceIte,vcPost,vcStd,Nat.reduceEqDiff,reduceCtorEq,Nat.reduceAdd,Nat.reduceLeDiff,Int.reduceLT,Int.reduceLE,↓u_setN]
 refine AllocQ.i0 fun p1 h1 => ?_
 simp only [↓vcPre,↓z0,↓reduceIte,vcPost,vcStd,Nat.reduceEqDiff,reduceCtorEq,Nat.reduceAdd,Nat.reduceLeDiff,Int.reduceLT,Int.reduceLE,↓u_setN]
 refine AllocQ.i1 fun p2 h21 h12 h2 => ?_
 simp only [h21,h12,f4,f5,e14,↓vcPre,↓z0,↓reduceIte,vcPost,vcStd,Nat.reduceEqDiff,reduceCtorEq,Nat.reduceAdd,Nat.reduceLeDiff,Int.reduceLT,Int.reduceLE,↓u_setN]
 refine (c18 x.a).Q ?_
 have e9:∀ x:At,x.c.length=9:=fun _=>rfl
 have spS:∀ a:At,splice 0 a.c [.int .i64 0,.nils,.int .u32 0,.bool false,.int .u32 0,.bool false,.int .u32 0,.bool false,.nils,.nils]=some (a.c++[.nils]):=fun _=>rfl
 have spU:∀ (v:AV) (b:Bool) (a:At) (w:AV) (ys:List AV),ys.length=12→splice 0 (upC v b a w) ys=some (upC v b a w):=fun v b a w ys h=>zq _ _ (by rw [h];rfl)
 have e12:∀ (v:AV) (b:Bool) (a:At) (w:AV),(upC v b a w).length=12:=fun _ _ _ _=>rfl
 simp only [e9,spS,↓vcPre,↓z0,↓reduceIte,vcPost,vcStd,Nat.reduceEqDiff,reduceCtorEq,Nat.reduceAdd,Nat.reduceLeDiff,Int.reduceLT,Int.reduceLE,↓u_setN]
 refine AllocQ.i2 fun p3 h32 h23 h31 h13 h3 => ?_
 have eU:AV.nils :: .bool x.has::((shortA x.a).c++[.nils])=upC .nils x.has (shortA x.a) .nils:=rfl
 simp only [h32,h23,h31,h13,eU,spU,↓vcPre,↓z0,↓reduceIte,vcPost,vcStd,Nat.reduceEqDiff,reduceCtorEq,Nat.reduceAdd,Nat.reduceLeDiff,Int.reduceLT,Int.reduceLE,↓u_setN]
 refine ⟨rfl,?_⟩
 obtain ⟨z,hz⟩:∃ z:List AV,z=[.nils,.bool false,.int .i64 0,.nils,.int .u32 0,.bool false,.int .u32 0,.bool false,.int .u32 0,.bool false,.nils,.nils]:=⟨_,rfl⟩
 have hzl:z.length=12:=by rw [hz];rfl
 rw [←hz]
 have sS:Store.sub σ ((((σ.set p1 (.box x.c)).set p2 (.box z)).set p3 (.box z)).set p3 (.box (upC .nils x.has (shortA x.a) .nils))):=z5 (z5 (zk h1 h2 h21) h3) h3
 have S3:((((σ.set p1 (.box x.c)).set p2 (.box z)).set p3 (.box z)).set p3 (.box (upC .nils x.has (shortA x.a) .nils))) p3=some (.box (upC .nils x.has (shortA x.a) .nils)):=Store.set_same _ _ _
 have S2:((((σ.set p1 (.box x.c)).set p2 (.box z)).set p3 (.box z)).set p3 (.box (upC .nils x.has (shortA x.a) .nils))) p2=some (.box z):=by rw [Store.set_ne _ _ h13,Store.set_ne _ _ h13];exact Store.set_same _ _ _
 have S1:((((σ.set p1 (.box x.c)).set p2 (.box z)).set p3 (.box z)).set p3 (.box (upC .nils x.has (shortA x.a) .nils))) p1=some (.box x.c):=by rw [Store.set_ne _ _ h23,Store.set_ne _ _ h23,Store.set_ne _ _ h12];exact Store.set_same _ _ _
 generalize ((((σ.set p1 (.box x.c)).set p2 (.box z)).set p3 (.box z)).set p3 (.box (upC .nils x.has (shortA x.a) .nils)))=S at sS S1 S2 S3 ⊢
 have g0:List.take 1 x.c=[.sl 1 (x.w.map cU)]:=rfl
 have g2:List.take 1 (List.drop 2 x.c)=[.sl 1 (x.wl.map cI)]:=rfl
 have g1:List.take 1 (List.drop 1 x.c)=[.sl 1 (x.n.map cU)]:=rfl
 have g3:List.take 1 (List.drop 3 x.c)=[.sl 1 (x.nl.map cI)]:=rfl
 have q0:∀ v w,List.take 1 (upC v x.has (shortA x.a) w)=[v]:=fun _ _=>rfl
 have q11:∀ v w,List.take 1 (List.drop 11 (upC v x.has (shortA x.a) w))=[w]:=fun _ _=>rfl
 have k0:∀ v w u,splice 0 [u] (upC v x.has (shortA x.a) w)=some (upC u x.has (shortA x.a) w):=fun _ _ _=>rfl
 have k11:∀ v w u,splice 11 [u] (upC v x.has (shortA x.a) w)=some (upC v x.has (shortA x.a) u):=fun _ _ _=>rfl
 unfold Small at hw hn hwl hnl
 refine LoopQ.inv (S:=Nat×AV×Store) (fun w=>[(1,.ptr p1 0),(2,.ptr p2 0),(3,.ptr p3 0),(4,.int .i64 (w.1:Int))]) (fun w=>w.2.2)
  (fun w=>w.1≤20∧w.1≤x.w.length∧w.1≤x.wl.length∧Own 2 σ (((x.w.zip x.wl).take w.1).map pxC) w.2.1 w.2.2∧Store.sub σ w.2.2∧w.2.2 p1=some (.box x.c)∧w.2.2 p2=some (.box z)∧w.2.2 p3=some (.box (upC w.2.1 x.has (shortA x.a) .nils)))
  (fun w=>21 - w.1) (0,.nils,S) rfl (Store.sub_refl _) ⟨by omega,by omega,by omega,Own.nil,sS,S1,S2,S3⟩ ?_
 rintro ⟨k,wv,s⟩ ⟨i1,i2,i3,i4,i5,i6,i7,i8⟩
 simp only at i1 i2 i3 i4 i5 i6 i7 i8
 simp only [i6,i8,g0,g2,e14,e12,q0,cI,cU,↓vcPre,↓z0,↓reduceIte,vcPost,vcStd,Nat.reduceEqDiff,reduceCtorEq,Nat.reduceAdd,Nat.reduceLeDiff,Int.reduceLT,Int.reduceLE,↓u_setN]
 have ek:∀ {k:Nat},k≤20→IntKind.i64.wrap ((k:Int)+1)=((k+1:Nat):Int):=fun h=>by rw [z7 (by unfold I64;omega)];omega
 have out:∀ nv t,Store.sub σ t→Own 2 σ ((madeP x.w x.wl).map pxC) wv t→Own 2 σ ((madeP x.n x.nl).map pxC) nv t→Apart wv nv→t p2=some (.box (upC wv x.has (shortA x.a) nv)) → @EndQ [(2,.ptr p2 0)] t ⟨Tsy.F15.slots,fun r s=>∃ wv nv,r = .agg (upC wv x.has (shortA x.a) nv)∧Store.sub σ s∧Own 2 σ ((madeP x.w x.wl).map pxC) wv s∧Own 2 σ ((madeP x.n x.nl).map pxC) nv s∧Apart wv nv⟩:=by
  intro nv t o1 o2 o3 o4 o5
  refine EndQ.to t (.agg (upC wv x.has (shortA x.a) nv)) ?_ (Store.sub_refl _) ⟨wv,nv,rfl,o1,o2,o3,o4⟩
  show Env.res [(2,AV.ptr p2 0)] t [RS.c 2 12 true]=_
  have u12:∀ v w,List.take 12 (upC v x.has (shortA x.a) w)=upC v x.has (shortA x.a) w:=fun _ _=>rfl
  simp only [o5,e12,u12,↓vcPre,↓z0,↓reduceIte,vcPost,vcStd,Nat.reduceEqDiff,reduceCtorEq,Nat.reduceAdd,Nat.reduceLeDiff,Int.reduceLT,Int.reduceLE,↓u_setN]
 have i4':=fun hb=>z01 hb i1 ▸ i4
 refine ⟨fun a1=>⟨fun a2=>⟨fun a3=>⟨a1,a2,?_⟩,fun a3=>qy hn hnl h23 h13 h2 h3 i5 i6 i7 i8 (i4' (by omega)) hzl out⟩,fun a2=>qy hn hnl h23 h13 h2 h3 i5 i6 i7 i8 (i4' (by omega)) hzl out⟩,fun a1=>qy hn hnl h23 h13 h2 h3 i5 i6 i7 i8 (i4' (by omega)) hzl out⟩
 refine AllocQ.i0 fun q hq => ?_
 simp only [↓vcPre,↓z0,↓reduceIte,vcPost,vcStd,Nat.reduceEqDiff,reduceCtorEq,Nat.reduceAdd,Nat.reduceLeDiff,Int.reduceLT,Int.reduceLE,↓u_setN]
 have hsq:=Store.sub_set s q (.arr 2 [[.int .u32 x.w[k],.int .i64 x.wl[k]]]) hq
 refine Own.appK (τ:=σ) (Store.sub_trans i5 hsq) (i4.mono hsq) (zo (Store.set_same _ _ _) rfl) (by simp;omega) fun v' s' a b c => ?_
 have hv:=b.cell
 have s3:=c _ _ (hsq _ _ i8) (fun M e=>by cases e)
 simp only [s3,k0,hv.1,hv.2,ek i1,e12,↓vcPre,↓z0,↓reduceIte,vcPost,vcStd,Nat.reduceEqDiff,reduceCtorEq,Nat.reduceAdd,Nat.reduceLeDiff,Int.reduceLT,Int.reduceLE,↓u_setN]
 refine NextQ.to (k+1,v',s'.set p3 (.box (upC v' x.has (shortA x.a) .nils))) rfl (Store.sub_refl _) (by simp only;omega) ?_
 refine ⟨by simp only;omega,by simp only;omega,by simp only;omega,?_,z5 a h3,?_,?_,Store.set_same _ _ _⟩
 ·rw [qg a1 a2,List.map_append]
  exact b.setId s3 (fun M e=>by cases e)
 ·show (s'.set p3 _) p1=_
  rw [Store.set_ne _ _ h23];exact c _ _ (hsq _ _ i6) (fun M e=>by cases e)
 ·show (s'.set p3 _) p2=_
  rw [Store.set_ne _ _ h13];exact c _ _ (hsq _ _ i7) (fun M e=>by cases e)
end Go.Am
namespace Go.Am
open Go.Proofs Go.Sort
def anyP (p:Int×Int):Int×Int:=ofF p.1 (p.2 % 33)
theorem qp (l m:List Int):(madeP l m).length=min 20 (min l.length m.length):=by simp [madeP]
def W9 (x:Raw9):List (Int×Int):=(madeP x.w x.wl).map anyP
def N9 (x:Raw9):List (Int×Int):=(madeP x.n x.nl).map anyP
def A9 (x:Raw9):At:=if N9 x=[] then zeroAt else rightK (shortA x.a)
def OwnW (σ:Store) (W:List (Int×Int)) (wv:AV) (N:List (Int×Int)) (nv:AV) (s:Store):Prop:=Own 2 σ (W.map pxC) wv s∧Own 2 σ (N.map pxC) nv s∧Apart wv nv
theorem OwnW.swap {σ s:Store} {W N:List (Int×Int)} {wv nv:AV} (h:OwnW σ W wv N nv s):OwnW σ N nv W wv s:=⟨h.2.1,h.1,fun g a b e e2=>h.2.2 g b a e2 e⟩
theorem OwnW.set {σ s:Store} {W N:List (Int×Int)} {wv nv:AV} (h:OwnW σ W wv N nv s) {g n:Nat} (hg:wv = .os g 2 0 n) (k:Nat) (p:Int×Int):OwnW σ (W.set k p) wv N nv (s.set g (.arr 2 ((W.map pxC).set k (pxC p)))):=by
 obtain ⟨h1,h2,h3⟩:=h
 rcases h1 with ⟨_,e⟩ | ⟨g1,e,e2,e3⟩
 ·rw [hg] at e;cases e
 ·rw [hg] at e;cases e
  refine ⟨.inr ⟨g,by rw [hg];simp,e2,by rw [List.map_set];exact Store.set_same _ _ _⟩,?_,h3⟩
  rcases h2 with h2 | ⟨g2,f1,f2,f3⟩
  ·exact .inl h2
  ·exact .inr ⟨g2,f1,f2,by rw [Store.set_ne _ _ (fun e=>by subst e;exact h3 _ _ _ hg f1)];exact f3⟩
theorem OwnW.box {σ s:Store} {W N:List (Int×Int)} {wv nv:AV} (h:OwnW σ W wv N nv s) {i:Nat} {c c':List AV} (hi:s i=some (.box c)):OwnW σ W wv N nv (s.set i (.box c')) :=
 ⟨h.1.setId hi (fun M e=>by cases e),h.2.1.setId hi (fun M e=>by cases e),h.2.2⟩
theorem OwnW.ne {σ s:Store} {W N:List (Int×Int)} {wv nv:AV} (h:OwnW σ W wv N nv s) {g n i:Nat} {c:List AV} (hg:wv = .os g 2 0 n) (hi:s i=some (.box c)):¬ i=g:=fun e=>by
 rcases h.1 with ⟨_,e1⟩ | ⟨g1,e1,_,e3⟩
 ·rw [hg] at e1;cases e1
 ·rw [hg] at e1;cases e1;rw [e,e3] at hi;cases hi
def mixP (W:List (Int×Int)) (k:Nat):List (Int×Int):=(W.take k).map anyP++W.drop k
theorem yj (W:List (Int×Int)) (k:Nat):(mixP W k).length=W.length:=by simp [mixP];omega
theorem us (W:List (Int×Int)) (k:Nat) (h:k<W.length):(mixP W k)[k]'(by rw [yj];exact h)=W[k]:=by
 unfold mixP
 rw [List.getElem_append_right (by simp;omega)]
 simp [Nat.min_eq_left (Nat.le_of_lt h)]
theorem z3m (W:List (Int×Int)) (k:Nat) (h:k<W.length):(mixP W k).set k (anyP W[k])=mixP W (k+1):=by
 unfold mixP
 have e1:((W.take k).map anyP).length=k:=by simp;omega
 rw [List.set_append_right _ _ (by omega),e1,Nat.sub_self,List.drop_eq_getElem_cons h,List.set_cons_zero,List.take_succ_eq_append_getElem h,List.map_append,List.append_assoc]
 rfl
section
variable {x:Raw9} {σ S t:Store} {p1 p2 p3:Nat} {wv nv:AV} {z:List AV} {n rr:Env→Store→Prop} {xx:Nat→Env→Store→Prop}
theorem z43 (hp31:¬ p1=p3) (hp32:¬ p2=p3) (ho:I64 x.a.org) (hσ2:σ p2=none) (hσ3':σ p3=none) (hσS:Store.sub σ S) (t1:t p1=some (.box x.c)) (t2:t p2=some (.box z)) (i2:OwnW S (W9 x) wv (N9 x) nv t) (i3:Store.sub S t) {b0:Bool} (i4:t p3=some (.box (upC wv b0 (shortA x.a) nv))) (hzl:z.length=12) {m:Int} {c:Bool}
 (hr:∀ ac t,ImpL ac (A9 x).c→Store.sub σ t→OwnW σ (W9 x) wv (N9 x) nv t→t p2=some (.box (wv :: .bool (decide (N9 x≠[]))::(ac++[nv])))→rr [(2,.ptr p2 0)] t) :
 bwp Tryz.prog Tsy.t6_56 [(1,.ptr p1 0),(2,.ptr p2 0),(3,.ptr p3 0),(5,.int .i64 m),(36,.bool c)] t n rr xx:=by
 simp only [Tsy.t6_56]
 have lN:pv .len [nv]=some (.int .i64 ((N9 x).length:Int)):=by rw [(Rd.own i2.2.1).2];simp
 have e12:∀ (v:AV) (b:Bool) (a:At) (w:AV),(upC v b a w).length=12:=fun _ _ _ _=>rfl
 have q11:∀ v w b a,List.take 1 (List.drop 11 (upC v b a w))=[w]:=fun _ _ _ _=>rfl
 have k1:∀ v w b a b',splice 1 [.bool b'] (upC v b a w)=some (upC v b' a w):=fun _ _ _ _ _=>rfl
 have k2:∀ v w b a,splice 2 zC (upC v b a w)=some (v :: .bool b::(zC++[w])):=fun _ _ _ _=>rfl
 rw [w7]
 simp only [i4,e12,q11,lN,k1,k2,↓vcPre,↓z0,↓reduceIte,vcPost,vcStd,Nat.reduceEqDiff,reduceCtorEq,Nat.reduceAdd,Nat.reduceLeDiff,Int.reduceLT,Int.reduceLE,↓u_setN]
 obtain ⟨bb,hbb⟩:∃ bb,bb=decide ((0:Int)<((N9 x).length:Int)):=⟨_,rfl⟩
 have hbN:bb=decide (N9 x≠[]):=by
  rw [hbb,Bool.eq_iff_iff,decide_eq_true_eq,decide_eq_true_eq]
  cases h:N9 x with
  | nil=>simp
  | cons a l=>simp
 rw [←hbb]
 have o1:=i2.box (c':=upC wv bb (shortA x.a) nv) i4
 have o2:=o1.box (c':=wv :: .bool bb::(zC++[nv])) (Store.set_same _ _ _)
 have T3:((t.set p3 (.box (upC wv bb (shortA x.a) nv))).set p3 (.box (wv :: .bool bb::(zC++[nv])))) p3=some (.box (wv :: .bool bb::(zC++[nv]))):=Store.set_same _ _ _
 have T2:((t.set p3 (.box (upC wv bb (shortA x.a) nv))).set p3 (.box (wv :: .bool bb::(zC++[nv])))) p2=some (.box z):=by rw [Store.set_ne _ _ hp32,Store.set_ne _ _ hp32];exact t2
 have T1:((t.set p3 (.box (upC wv bb (shortA x.a) nv))).set p3 (.box (wv :: .bool bb::(zC++[nv])))) p1=some (.box x.c):=by rw [Store.set_ne _ _ hp31,Store.set_ne _ _ hp31];exact t1
 have sT:Store.sub σ ((t.set p3 (.box (upC wv bb (shortA x.a) nv))).set p3 (.box (wv :: .bool bb::(zC++[nv])))):=z5 (z5 (Store.sub_trans hσS i3) hσ3') hσ3'
 generalize (t.set p3 (.box (upC wv bb (shortA x.a) nv))).set p3 (.box (wv :: .bool bb::(zC++[nv])))=T at o2 T1 T2 T3 sT ⊢
 have oσ:OwnW σ (W9 x) wv (N9 x) nv T:=⟨o2.1.weak hσS,o2.2.1.weak hσS,o2.2.2⟩
 have f5:List.take 9 (List.drop 5 x.c)=x.a.c:=rfl
 have e14:x.c.length=14:=rfl
 have e9:∀ a:At,a.c.length=9:=fun _=>rfl
 have zl:zC.length=9:=rfl
 have l10:∀ w:AV,List.take 10 (zC++[w])=zC++[w]:=fun _=>rfl
 have l10':∀ (a:At) (w:AV),List.take 10 (a.c++[w])=a.c++[w]:=fun _ _=>rfl
 have z10:∀ w:AV,(zC++[w]).length=10:=fun _=>rfl
 have a10:∀ (a:At) (w:AV),(a.c++[w]).length=10:=fun _ _=>rfl
 have k2':∀ (a:At) v w b,splice 2 a.c (v :: .bool b::(zC++[w]))=some (v :: .bool b::(a.c++[w])):=fun _ _ _ _=>rfl
 have spz:∀ l:List AV,l.length=12→splice 0 l z=some l:=fun l h=>zq _ _ (by rw [h,hzl])
 refine ⟨rfl,fun g => ?_,fun g => ?_⟩
 ·have hA:A9 x=rightK (shortA x.a):=by unfold A9;rw [if_neg (fun e=>by rw [e] at g;simp at g)]
  simp only [T1,f5,e14,↓vcPre,↓z0,↓reduceIte,vcPost,vcStd,Nat.reduceEqDiff,reduceCtorEq,Nat.reduceAdd,Nat.reduceLeDiff,Int.reduceLT,Int.reduceLE,↓u_setN]
  refine (c18 x.a).Q ?_
  simp only [↓vcPre,↓z0,↓reduceIte,vcPost,vcStd,Nat.reduceEqDiff,reduceCtorEq,Nat.reduceAdd,Nat.reduceLeDiff,Int.reduceLT,Int.reduceLE,↓u_setN]
  refine (c17 _ (z69 x.a).ok ho).Q ?_
  have s12:splice 0 (wv :: .bool bb::((rightK (shortA x.a)).c++[nv])) z=some (wv :: .bool bb::((rightK (shortA x.a)).c++[nv])):=spz _ rfl
  simp only [T3,T2,e9,k2',l10',a10,hp32,s12,↓vcPre,↓z0,↓reduceIte,vcPost,vcStd,Nat.reduceEqDiff,reduceCtorEq,Nat.reduceAdd,Nat.reduceLeDiff,Int.reduceLT,Int.reduceLE,↓u_setN]
  refine hr (rightK (shortA x.a)).c _ (by rw [hA];exact ImpL.refl _ (by simp [At.c,AV.flat])) (z5 (z5 sT hσ3') hσ2) ?_ (by rw [hbN];exact Store.set_same _ _ _)
  exact (oσ.box T3).box (by rw [Store.set_ne _ _ hp32];exact T2)
 ·have hA:A9 x=zeroAt:=by unfold A9;rw [if_pos (by cases h:N9 x with | nil=>rfl | cons a l=>rw [h] at g;simp at g)]
  have s12:splice 0 (wv :: .bool bb::(zC++[nv])) z=some (wv :: .bool bb::(zC++[nv])):=spz _ rfl
  simp only [T2,z10,l10,s12,↓vcPre,↓z0,↓reduceIte,vcPost,vcStd,Nat.reduceEqDiff,reduceCtorEq,Nat.reduceAdd,Nat.reduceLeDiff,Int.reduceLT,Int.reduceLE,↓u_setN]
  exact hr zC _ (by rw [hA];exact zC_imp) (z5 sT hσ2) (oσ.box T2) (by rw [hbN];exact Store.set_same _ _ _)
theorem z4l (hp31:¬ p1=p3) (hp32:¬ p2=p3) (ho:I64 x.a.org) (hn2:∀ v ∈ x.nl,I64 v) (hσ2:σ p2=none) (hσ3':σ p3=none) (hσS:Store.sub σ S) (S1:S p1=some (.box x.c)) (S2:S p2=some (.box z)) (i2:OwnW S (W9 x) wv (madeP x.n x.nl) nv t) (i3:Store.sub S t) {b0:Bool} (i4:t p3=some (.box (upC wv b0 (shortA x.a) nv))) (hzl:z.length=12) {m:Int} {c:Bool}
 (hr:∀ ac t,ImpL ac (A9 x).c→Store.sub σ t→OwnW σ (W9 x) wv (N9 x) nv t→t p2=some (.box (wv :: .bool (decide (N9 x≠[]))::(ac++[nv])))→rr [(2,.ptr p2 0)] t) :
 bwp Tryz.prog Tsy.t6_5 [(1,.ptr p1 0),(2,.ptr p2 0),(3,.ptr p3 0),(4,.int .i64 m),(12,.bool c)] t n rr xx:=by
 simp only [Tsy.t6_5]
 have e12:∀ (v:AV) (b:Bool) (a:At) (w:AV),(upC v b a w).length=12:=fun _ _ _ _=>rfl
 have q11:∀ v w b a,List.take 1 (List.drop 11 (upC v b a w))=[w]:=fun _ _ _ _=>rfl
 have lN:(madeP x.n x.nl).length≤20:=by simp [madeP];omega
 simp only [↓vcPre,↓z0,↓reduceIte,vcPost,vcStd,Nat.reduceEqDiff,reduceCtorEq,Nat.reduceAdd,Nat.reduceLeDiff,Int.reduceLT,Int.reduceLE,↓u_setN]
 refine LoopQ.inv (S:=Nat×Store) (fun w=>[(1,.ptr p1 0),(2,.ptr p2 0),(3,.ptr p3 0),(5,.int .i64 (w.1:Int))]) (fun w=>w.2)
  (fun w=>w.1≤(madeP x.n x.nl).length∧OwnW S (mixP (madeP x.n x.nl) w.1) nv (W9 x) wv w.2∧Store.sub S w.2∧w.2 p3=some (.box (upC wv b0 (shortA x.a) nv)))
  (fun w=>21 - w.1) (0,t) rfl (Store.sub_refl _) ⟨by omega,by simpa [mixP] using i2.swap,i3,i4⟩ ?_
 clear i2 i3 i4
 rintro ⟨k,t⟩ ⟨i1,i2,i3,i4⟩
 simp only at i1 i2 i3 i4
 have rW:Rd 2 t ((mixP (madeP x.n x.nl) k).map pxC) nv:=Rd.own i2.1
 have lv:pv .len [nv]=some (.int .i64 ((madeP x.n x.nl).length:Int)):=by rw [rW.2];simp [yj]
 simp only [i4,q11,e12,lv,↓vcPre,↓z0,↓reduceIte,vcPost,vcStd,Nat.reduceEqDiff,reduceCtorEq,Nat.reduceAdd,Nat.reduceLeDiff,Int.reduceLT,Int.reduceLE,↓u_setN]
 refine ⟨fun c1 => ?_,fun c1 => ?_⟩
 ·obtain ⟨g,hg,hgt⟩:∃ g,nv = .os g 2 0 (madeP x.n x.nl).length∧t g=some (.arr 2 ((mixP (madeP x.n x.nl) k).map pxC)):=by
   rcases i2.1 with ⟨h,_⟩ | ⟨g,h,_,h2⟩
   ·have h':=congrArg List.length h;rw [List.length_map,yj,List.length_nil] at h';omega
   ·exact ⟨g,by rw [h];simp [yj],h2⟩
  have hk2:(k:Int)<((madeP x.n x.nl).length:Int):=by omega
  have hgk:((mixP (madeP x.n x.nl) k).map pxC)[k]? = some (pxC (madeP x.n x.nl)[k]):=by
   rw [List.getElem?_map,List.getElem?_eq_getElem (by rw [yj];exact c1),us _ _ c1];rfl
  have hI:I64 (madeP x.n x.nl)[k].2:=by
   refine hn2 _ ?_
   have hk3:k<x.n.length∧k<x.nl.length:=by rw [qp] at c1;omega
   have:(madeP x.n x.nl)[k]=(x.n[k]'hk3.1,x.nl[k]'hk3.2):=by simp [madeP]
   rw [this];exact List.getElem_mem _
  simp only [hg,um,hk2,hgt,hgk,pxC,↓vcPre,↓z0,↓reduceIte,vcPost,vcStd,Nat.reduceEqDiff,reduceCtorEq,Nat.reduceAdd,Nat.reduceLeDiff,Int.reduceLT,Int.reduceLE,↓u_setN]
  have hkl:k<(mixP (madeP x.n x.nl) k).length:=by rw [yj];exact c1
  refine ⟨by omega,by omega,?_⟩
  simp only [Nat.zero_add,us _ _ c1]
  refine (c16 _ _ hI).Q ?_
  simp only [hg,um,hk2,hgt,hgk,pxC,↓vcPre,↓z0,↓reduceIte,vcPost,vcStd,Nat.reduceEqDiff,reduceCtorEq,Nat.reduceAdd,Nat.reduceLeDiff,Int.reduceLT,Int.reduceLE,↓u_setN]
  have ek:IntKind.i64.wrap ((k:Int)+1)=((k+1:Nat):Int):=by rw [z7 (by unfold I64;omega)];omega
  rw [ek]
  have hgp:=i2.ne hg i4
  have hgS:S g=none:=by
   rcases i2.1 with ⟨_,h⟩ | ⟨g1,h,h0,_⟩
   ·rw [hg] at h;cases h
   ·rw [hg] at h;injection h with e1;rw [e1];exact h0
  refine ⟨by omega,NextQ.to (k+1,_) rfl (Store.sub_refl _) (by simp only;omega) ⟨by simp only;omega,?_,z5 i3 hgS,(Store.set_ne _ _ hgp).trans i4⟩⟩
  have:=i2.set hg k (anyP (madeP x.n x.nl)[k])
  rw [z3m _ _ c1] at this
  simp only [Nat.zero_add]
  exact this
 ·have hmx:mixP (madeP x.n x.nl) k=N9 x:=by unfold mixP N9;rw [List.take_of_length_le (by omega),List.drop_eq_nil_of_le (by omega),List.append_nil]
  rw [hmx] at i2
  exact z43 hp31 hp32 ho hσ2 hσ3' hσS (i3 _ _ S1) (i3 _ _ S2) i2.swap i3 i4 hzl hr
end
set_option maxHeartbeats 1000000 in
theorem so6 (x:Raw9) (hw:Small x.w) (hn:Small x.n) (hwl:Small x.wl) (hnl:Small x.nl) (ho:I64 x.a.org) (hw2:∀ v ∈ x.wl,I64 v) (hn2:∀ v ∈ x.nl,I64 v) (σ:Store):ACalls Tryz.prog 6 [.agg x.c] σ (fun r s=>∃ wv nv ac,r = .agg (wv :: .bool (decide (N9 x≠[]))::(ac++[nv]))∧ImpL ac (A9 x).c∧Store.sub σ s∧OwnW σ (W9 x) wv (N9 x) nv s):=by
 refine zd Tsy.F6 (by simp [Tsy.F6,Fn.mkX]) ?_
 simp only [Tsy.F6,Fn.mkX,Tsy.b6]
 have e14:x.c.length=14:=rfl
 have t14:List.take 14 x.c=x.c:=rfl
 have e12:∀ (v:AV) (b:Bool) (a:At) (w:AV),(upC v b a w).length=12:=fun _ _ _ _=>rfl
 simp only [↓vcPre,↓z0,↓reduceIte,vcPost,vcStd,Nat.reduceEqDiff,reduceCtorEq,Nat.reduceAdd,Nat.reduceLeDiff,Int.reduceLT,Int.reduceLE,↓u_setN]
 refine AllocQ.i0 fun p1 h1 => ?_
 simp only [↓vcPre,↓z0,↓reduceIte,vcPost,vcStd,Nat.reduceEqDiff,reduceCtorEq,Nat.reduceAdd,Nat.reduceLeDiff,Int.reduceLT,Int.reduceLE,↓u_setN]
 refine AllocQ.i1 fun p2 h21 h12 h2 => ?_
 simp only [h21,h12,e14,t14,Nat.le_refl,↓vcPre,↓z0,↓reduceIte,vcPost,vcStd,Nat.reduceEqDiff,reduceCtorEq,Nat.reduceAdd,Nat.reduceLeDiff,Int.reduceLT,Int.reduceLE,↓u_setN]
 obtain ⟨z,hz⟩:∃ z:List AV,z=[.nils,.bool false,.int .i64 0,.nils,.int .u32 0,.bool false,.int .u32 0,.bool false,.int .u32 0,.bool false,.nils,.nils]:=⟨_,rfl⟩
 have hzl:z.length=12:=by rw [hz];rfl
 rw [←hz]
 have sS:Store.sub σ ((σ.set p1 (.box x.c)).set p2 (.box z)):=zk h1 h2 h21
 have S2:((σ.set p1 (.box x.c)).set p2 (.box z)) p2=some (.box z):=Store.set_same _ _ _
 have S1:((σ.set p1 (.box x.c)).set p2 (.box z)) p1=some (.box x.c):=by rw [Store.set_ne _ _ h12];exact Store.set_same _ _ _
 generalize (σ.set p1 (.box x.c)).set p2 (.box z)=S at sS S1 S2 ⊢
 refine (zh5 x hw hn hwl hnl S).Q ?_
 rintro r s ⟨wv,nv,rfl,hs,o1,o2,o3⟩
 have s1:=hs _ _ S1
 have s2:=hs _ _ S2
 simp only [↓vcPre,↓z0,↓reduceIte,vcPost,vcStd,Nat.reduceEqDiff,reduceCtorEq,Nat.reduceAdd,Nat.reduceLeDiff,Int.reduceLT,Int.reduceLE,↓u_setN]
 refine AllocQ.i0 fun p3 h3 => ?_
 have spU:∀ (v:AV) (b:Bool) (a:At) (w:AV),splice 0 (upC v b a w) z=some (upC v b a w):=fun v b a w=>zq _ _ (by rw [hzl];rfl)
 simp only [spU,e12,↓vcPre,↓z0,↓reduceIte,vcPost,vcStd,Nat.reduceEqDiff,reduceCtorEq,Nat.reduceAdd,Nat.reduceLeDiff,Int.reduceLT,Int.reduceLE,↓u_setN]
 obtain ⟨B,hB⟩:∃ B,B=shortA x.a:=⟨_,rfl⟩
 rw [←hB]
 have hp31:¬ p1=p3:=fun e=>by subst e;rw [h3] at s1;cases s1
 have hp32:¬ p2=p3:=fun e=>by subst e;rw [h3] at s2;cases s2
 have oW:OwnW S (madeP x.w x.wl) wv (madeP x.n x.nl) nv s:=⟨o1,o2,o3⟩
 have hσ3:S p3=none:=zi hs h3
 have oW2:OwnW S (madeP x.w x.wl) wv (madeP x.n x.nl) nv ((s.set p3 (.box z)).set p3 (.box (upC wv x.has B nv))):=by
  have m:Store.sub s (s.set p3 (.box z)):=Store.sub_set _ _ _ h3
  exact OwnW.box (s:=s.set p3 (.box z)) ⟨oW.1.mono m,oW.2.1.mono m,oW.2.2⟩ (Store.set_same _ _ _)
 have sS2:Store.sub S ((s.set p3 (.box z)).set p3 (.box (upC wv x.has B nv))):=z5 (z5 hs hσ3) hσ3
 have T3:((s.set p3 (.box z)).set p3 (.box (upC wv x.has B nv))) p3=some (.box (upC wv x.has B nv)):=Store.set_same _ _ _
 generalize (s.set p3 (.box z)).set p3 (.box (upC wv x.has B nv))=T at oW2 sS2 T3 ⊢
 have lW:(madeP x.w x.wl).length≤20:=by simp [madeP];omega
 have lN:(madeP x.n x.nl).length≤20:=by simp [madeP];omega
 have q0:∀ v w b,List.take 1 (upC v b B w)=[v]:=fun _ _ _=>rfl
 refine LoopQ.inv (S:=Nat×Store) (fun w=>[(1,.ptr p1 0),(2,.ptr p2 0),(3,.ptr p3 0),(4,.int .i64 (w.1:Int))]) (fun w=>w.2)
  (fun w=>w.1≤(madeP x.w x.wl).length∧OwnW S (mixP (madeP x.w x.wl) w.1) wv (madeP x.n x.nl) nv w.2∧Store.sub S w.2∧w.2 p3=some (.box (upC wv x.has B nv)))
  (fun w=>21 - w.1) (0,T) rfl (Store.sub_refl _) ⟨by omega,by simpa [mixP] using oW2,sS2,T3⟩ ?_
 rintro ⟨k,t⟩ ⟨i1,i2,i3,i4⟩
 simp only at i1 i2 i3 i4
 have rW:Rd 2 t ((mixP (madeP x.w x.wl) k).map pxC) wv:=Rd.own i2.1
 have lv:pv .len [wv]=some (.int .i64 ((madeP x.w x.wl).length:Int)):=by rw [rW.2];simp [yj]
 simp only [i4,q0,e12,lv,↓vcPre,↓z0,↓reduceIte,vcPost,vcStd,Nat.reduceEqDiff,reduceCtorEq,Nat.reduceAdd,Nat.reduceLeDiff,Int.reduceLT,Int.reduceLE,↓u_setN]
 refine ⟨fun c1 => ?_,fun c1 => ?_⟩
 ·obtain ⟨g,hg,hgt⟩:∃ g,wv = .os g 2 0 (madeP x.w x.wl).length∧t g=some (.arr 2 ((mixP (madeP x.w x.wl) k).map pxC)):=by
   rcases i2.1 with ⟨h,_⟩ | ⟨g,h,_,h2⟩
   ·have h':=congrArg List.length h;rw [List.length_map,yj,List.length_nil] at h';omega
   ·exact ⟨g,by rw [h];simp [yj],h2⟩
  have hk2:(k:Int)<((madeP x.w x.wl).length:Int):=by omega
  have hgk:((mixP (madeP x.w x.wl) k).map pxC)[k]? = some (pxC (madeP x.w x.wl)[k]):=by
   rw [List.getElem?_map,List.getElem?_eq_getElem (by rw [yj];exact c1),us _ _ c1];rfl
  have hI:I64 (madeP x.w x.wl)[k].2:=by
   refine hw2 _ ?_
   have hk3:k<x.w.length∧k<x.wl.length:=by rw [qp] at c1;omega
   have:(madeP x.w x.wl)[k]=(x.w[k]'hk3.1,x.wl[k]'hk3.2):=by simp [madeP]
   rw [this];exact List.getElem_mem _
  simp only [hg,um,hk2,hgt,hgk,pxC,↓vcPre,↓z0,↓reduceIte,vcPost,vcStd,Nat.reduceEqDiff,reduceCtorEq,Nat.reduceAdd,Nat.reduceLeDiff,Int.reduceLT,Int.reduceLE,↓u_setN]
  have hkl:k<(mixP (madeP x.w x.wl) k).length:=by rw [yj];exact c1
  refine ⟨by omega,by omega,?_⟩
  simp only [Nat.zero_add,us _ _ c1]
  refine (c16 _ _ hI).Q ?_
  simp only [hg,um,hk2,hgt,hgk,pxC,↓vcPre,↓z0,↓reduceIte,vcPost,vcStd,Nat.reduceEqDiff,reduceCtorEq,Nat.reduceAdd,Nat.reduceLeDiff,Int.reduceLT,Int.reduceLE,↓u_setN]
  have ek:IntKind.i64.wrap ((k:Int)+1)=((k+1:Nat):Int):=by rw [z7 (by unfold I64;omega)];omega
  rw [ek]
  have hgp:=i2.ne hg i4
  have hgS:S g=none:=by
   rcases i2.1 with ⟨_,h⟩ | ⟨g1,h,h0,_⟩
   ·rw [hg] at h;cases h
   ·rw [hg] at h;injection h with e1;rw [e1];exact h0
  refine ⟨by omega,NextQ.to (k+1,_) rfl (Store.sub_refl _) (by simp only;omega) ⟨by simp only;omega,?_,z5 i3 hgS,(Store.set_ne _ _ hgp).trans i4⟩⟩
  have:=i2.set hg k (anyP (madeP x.w x.wl)[k])
  rw [z3m _ _ c1] at this
  simp only [Nat.zero_add]
  exact this
 ·have hkE:k=(madeP x.w x.wl).length:=by omega
  have hmx:mixP (madeP x.w x.wl) k=W9 x:=by unfold mixP W9;rw [List.take_of_length_le (by omega),List.drop_eq_nil_of_le (by omega),List.append_nil]
  rw [hmx] at i2
  rw [hB] at i4
  have hσp3:=zi sS hσ3
  refine z4l hp31 hp32 ho hn2 h2 hσp3 sS S1 S2 i2 i3 i4 hzl fun ac t a b c d => ?_
  refine EndQ.to t (.agg (wv :: .bool (decide (N9 x≠[]))::(ac++[nv]))) ?_ (Store.sub_refl _) ⟨wv,nv,ac,rfl,a,b,c⟩
  show Env.res [(2,AV.ptr p2 0)] t [RS.c 2 12 true]=_
  have la:ac.length=9:=a.length
  have t10:List.take 10 (ac++[nv])=ac++[nv]:=List.take_of_length_le (by simp [la])
  simp only [d,la,t10,↓vcPre,↓z0,↓reduceIte,vcPost,vcStd,Nat.reduceEqDiff,reduceCtorEq,Nat.reduceAdd,Nat.reduceLeDiff,Int.reduceLT,Int.reduceLE,↓u_setN]
  simp [la]
end Go.Am
namespace Go.Am
open Go.Proofs Go.Sort
def cutU (B:List Int):Option (List Int×List Int×List Int):=match B with
 | h::l::r=>if (r.length:Int)<h*256+l then none else match r.drop (h*256+l).toNat with
   | h2::l2::r2=>if (r2.length:Int)<h2*256+l2 then none else some (r.take (h*256+l).toNat,r2.take (h2*256+l2).toNat,r2.drop (h2*256+l2).toNat)
   | _=>none
 | _=>none
def chainU (B:List Int):List Int×List Int×List Int×Bool :=
 let a:=numM 2 B false
 let b:=rawM a.1 a.2.1 a.2.2
 let c:=numM 2 b.2.1 b.2.2
 let d:=rawM c.1 c.2.1 c.2.2
 (b.1,d.1,d.2.1,d.2.2)
theorem z2h {n:Int} {R:List Int} (h:(R.length:Int)<n):rawM n R false=([],R,true):=by
 unfold rawM;rw [if_pos (by right;omega)]
theorem z5m {B:List Int} (hu:U8s B):(cutU B=none∧(chainU B).2.2.2=true)∨∃ g a r,cutU B=some (g,a,r)∧chainU B=(g,a,r,false):=by
 match B,hu with
 | [],_=>left;exact ⟨rfl,by simp only [chainU];rw [uk (by simp)];simp only;rw [xk];simp only;rw [z1c];simp only;rw [xk]⟩
 | [x],_=>left;exact ⟨rfl,by simp only [chainU];rw [uk (by simp)];simp only;rw [xk];simp only;rw [z1c];simp only;rw [xk]⟩
 | h::l::r,hu =>
   have hh:=hu h (by simp)
   have hl:=hu l (by simp)
   simp only [chainU,cutU]
   rw [z2x]
   simp only
   by_cases c:(r.length:Int)<h*256+l
   ·left
    rw [if_pos c,z2h c];simp only;rw [z1c];simp only;rw [xk]
    exact ⟨trivial,rfl⟩
   ·rw [if_neg c,w6 (by omega) c]
    simp only
    have hu2:U8s (r.drop (h*256+l).toNat):=fun x hx=>hu x (by simp [List.mem_of_mem_drop hx])
    generalize r.drop (h*256+l).toNat=r1 at hu2 ⊢
    match r1,hu2 with
    | [],_=>left;rw [uk (by simp)];simp only;rw [xk];exact ⟨trivial,rfl⟩
    | [x],_=>left;rw [uk (by simp)];simp only;rw [xk];exact ⟨trivial,rfl⟩
    | h2::l2::r2,hu2 =>
      have hh2:=hu2 h2 (by simp)
      have hl2:=hu2 l2 (by simp)
      rw [z2x]
      simp only
      by_cases c2:(r2.length:Int)<h2*256+l2
      ·left;rw [if_pos c2,z2h c2];exact ⟨rfl,rfl⟩
      ·right
       rw [if_neg c2,w6 (by omega) c2]
       exact ⟨_,_,_,rfl,rfl⟩
structure Up where
 w:List (Int×Int)
 has:Bool
 a:At
 n:List (Int×Int)
def zeroUp:Up:=⟨[],false,zeroAt,[]⟩
def Up.c (u:Up):List AV:=upC (.sl 2 (u.w.map pxC)) u.has u.a (.sl 2 (u.n.map pxC))
def decU (inner:Bool) (B:List Int):Except Nt Up:=match cutU B with
 | none => .error (1,[])
 | some (g,a,r)=>match dN g with
   | none => .error (10,[])
   | some w=>match decA inner a with
     | .error n => .error n
     | .ok (at_,ty)=>match dN r with
       | none => .error (10,[])
       | some n=>if n=[] then .ok ⟨w,false,zeroAt,[]⟩ else if lacksF ty inner=0 then .ok ⟨w,true,at_,n⟩ else .error (3,[lacksF ty inner])
def outU (x:Except Nt Up):AV:=match x with
 | .ok u => .tup [.agg u.c,.agg [.int .i64 0,.int .i64 0,.sl 1 []]]
 | .error n => .tup [.agg zeroUp.c,.agg [.int .i64 3,.int .i64 n.1,.sl 1 (n.2.map cB)]]
def zU:List AV:=[.nils,.bool false,.int .i64 0,.nils,.int .u32 0,.bool false,.int .u32 0,.bool false,.int .u32 0,.bool false,.nils,.nils]
theorem yh:[AV.nils,.bool false,.int .i64 0,.nils,.int .u32 0,.bool false,.int .u32 0,.bool false,.int .u32 0,.bool false,.nils,.nils]=zU:=rfl
theorem z8h:ImpL zU zeroUp.c :=
 show ImpL (AV.nils :: .bool false::(zC++[.nils])) (AV.sl 2 [] :: .bool false::(zeroAt.c++[.sl 2 []])) from .cons .nils (.cons (.refl rfl) (zC_imp.append (.cons .nils .nil)))
theorem z3l (ty:List Int) (inner:Bool):0≤lacksF ty inner∧lacksF ty inner≤5:=by
 unfold lacksF
 cases h:(mustF inner).find? (fun k => !decide (k ∈ ty)) with
 | none=>simp
 | some x =>
   have:=List.mem_of_find?_eq_some h
   unfold mustF at this
   cases inner <;> simp at this <;> simp <;> omega
set_option maxHeartbeats 2000000 in
theorem s9 {σ:Store} {B:List Int} {v:AV} (hr:Rd 1 σ (B.map cB) v) (hB:B.length≤1000000) (hu:U8s B) (inner:Bool):ACalls Tryz.prog 9 [v,.bool inner] σ (fun r s=>s=σ∧r=outU (decU inner B)):=by
 refine zd Ts2.F9 (by simp [Ts2.F9,Fn.mkX]) ?_
 simp only [Ts2.F9,Fn.mkX,Ts2.b9,yh,x8]
 simp only [↓vcPre,↓z0,↓reduceIte,vcPost,vcStd,Nat.reduceEqDiff,reduceCtorEq,Nat.reduceAdd,Nat.reduceLeDiff,Int.reduceLT,Int.reduceLE,↓u_setN]
 refine AllocQ.i0 fun p4 h4 => ?_
 simp only [↓vcPre,↓z0,↓reduceIte,vcPost,vcStd,Nat.reduceEqDiff,reduceCtorEq,Nat.reduceAdd,Nat.reduceLeDiff,Int.reduceLT,Int.reduceLE,↓u_setN]
 refine AllocQ.i1 fun p5 h54 h45 h5 => ?_
 simp only [↓vcPre,↓z0,↓reduceIte,vcPost,vcStd,Nat.reduceEqDiff,reduceCtorEq,Nat.reduceAdd,Nat.reduceLeDiff,Int.reduceLT,Int.reduceLE,↓u_setN]
 have hU:=zk (o := .box zU) (p := .box zN) h4 h5 h54
 have U5:((σ.set p4 (.box zU)).set p5 (.box zN)) p5=some (.box zN):=Store.set_same _ _ _
 have U4:((σ.set p4 (.box zU)).set p5 (.box zN)) p4=some (.box zU):=by rw [Store.set_ne _ _ h45];exact Store.set_same _ _ _
 generalize (σ.set p4 (.box zU)).set p5 (.box zN)=U at hU U4 U5 ⊢
 refine (s27 (hr.mono hU) (by omega)).Q ?_
 rintro r s ⟨id,rfl,h⟩
 simp only [↓vcPre,↓z0,↓reduceIte,vcPost,vcStd,Nat.reduceEqDiff,reduceCtorEq,Nat.reduceAdd,Nat.reduceLeDiff,Int.reduceLT,Int.reduceLE,↓u_setN]
 refine (s29 h (by omega) hu).Q ?_
 rintro r s1 ⟨rfl,k1⟩
 have b1:=w0 (k:=2) (b:=false) hu
 simp only [↓vcPre,↓z0,↓reduceIte,vcPost,vcStd,Nat.reduceEqDiff,reduceCtorEq,Nat.reduceAdd,Nat.reduceLeDiff,Int.reduceLT,Int.reduceLE,↓u_setN]
 refine (s28 k1 (by omega) _).Q ?_
 rintro r s2 ⟨rfl,k2⟩
 have b2:=vf (n:=(numM 2 B false).1) (bad:=(numM 2 B false).2.2) b1.1
 have b2l:=rawM_len (n:=(numM 2 B false).1) (R:=(numM 2 B false).2.1) (bad:=(numM 2 B false).2.2)
 simp only [↓vcPre,↓z0,↓reduceIte,vcPost,vcStd,Nat.reduceEqDiff,reduceCtorEq,Nat.reduceAdd,Nat.reduceLeDiff,Int.reduceLT,Int.reduceLE,↓u_setN]
 refine (s29 k2 (by omega) b2.2).Q ?_
 rintro r s3 ⟨rfl,k3⟩
 simp only [↓vcPre,↓z0,↓reduceIte,vcPost,vcStd,Nat.reduceEqDiff,reduceCtorEq,Nat.reduceAdd,Nat.reduceLeDiff,Int.reduceLT,Int.reduceLE,↓u_setN]
 refine (s28 k3 (by have:=(w0 (k:=2) (b:=(rawM (numM 2 B false).1 (numM 2 B false).2.1 (numM 2 B false).2.2).2.2) b2.2).2;omega) _).Q ?_
 rintro r s4 ⟨rfl,k4⟩
 obtain ⟨g,hg⟩:∃ x,x=(rawM (numM 2 B false).1 (numM 2 B false).2.1 (numM 2 B false).2.2):=⟨_,rfl⟩
 rw [←hg] at k4 b2 b2l ⊢
 have b3:=w0 (k:=2) (b:=g.2.2) b2.2
 have b4:=vf (n:=(numM 2 g.2.1 g.2.2).1) (bad:=(numM 2 g.2.1 g.2.2).2.2) b3.1
 have b4l:=rawM_len (n:=(numM 2 g.2.1 g.2.2).1) (R:=(numM 2 g.2.1 g.2.2).2.1) (bad:=(numM 2 g.2.1 g.2.2).2.2)
 obtain ⟨a,ha⟩:∃ x,x=rawM (numM 2 g.2.1 g.2.2).1 (numM 2 g.2.1 g.2.2).2.1 (numM 2 g.2.1 g.2.2).2.2:=⟨_,rfl⟩
 rw [←ha] at k4 b4 b4l ⊢
 have hch:chainU B=(g.1,a.1,a.2.1,a.2.2):=by simp only [chainU,←hg,←ha]
 simp only [↓vcPre,↓z0,↓reduceIte,vcPost,vcStd,Nat.reduceEqDiff,reduceCtorEq,Nat.reduceAdd,Nat.reduceLeDiff,Int.reduceLT,Int.reduceLE,↓u_setN]
 refine (s30 k4).Q ?_
 rintro r s5 ⟨rfl,rfl⟩
 simp only [↓vcPre,↓z0,↓reduceIte,vcPost,vcStd,Nat.reduceEqDiff,reduceCtorEq,Nat.reduceAdd,Nat.reduceLeDiff,Int.reduceLT,Int.reduceLE,↓u_setN]
 refine (s28 k4 (by omega) _).Q ?_
 rintro r s6 ⟨rfl,k6⟩
 simp only [↓vcPre,↓z0,↓reduceIte,vcPost,vcStd,Nat.reduceEqDiff,reduceCtorEq,Nat.reduceAdd,Nat.reduceLeDiff,Int.reduceLT,Int.reduceLE,↓u_setN]
 refine (s31 k6).Q ?_
 rintro r s7 ⟨rfl,rfl⟩
 simp only [↓vcPre,↓z0,↓reduceIte,vcPost,vcStd,Nat.reduceEqDiff,reduceCtorEq,Nat.reduceAdd,Nat.reduceLeDiff,Int.reduceLT,Int.reduceLE,↓u_setN]
 have hs7:Store.sub σ s7:=Store.sub_trans hU k6.2.1
 have S4:=k6.2.1 _ _ U4
 have S5:=k6.2.1 _ _ U5
 have zl:zU.length=12:=rfl
 have zt:List.take 12 zU=zU:=rfl
 have szz:splice 0 zU zU=some zU:=rfl
 have szn:∀ x y z:AV,splice 0 [x,y,z] zN=some [x,y,z]:=fun _ _ _=>rfl
 have fin:∀ (T:Store) (cs ns:List AV),cs.length=12→ns.length=3→T p4=some (.box cs)→T p5=some (.box ns)→WeakL [.agg cs,.agg ns] T (fun l t=>t=σ ∧ .tup l=outU (decU inner B)) →
  @EndQ [(4,.ptr p4 0),(5,.ptr p5 0)] T ⟨Ts2.F9.slots,fun r s=>s=σ∧r=outU (decU inner B)⟩:=by
  intro T cs ns l1 l2 f4 f5 hW
  unfold EndQ
  refine ⟨.tup [.agg cs,.agg ns],?_,Weak.tup hW⟩
  show Env.res [(4,AV.ptr p4 0),(5,AV.ptr p5 0)] T [RS.c 4 12 true,RS.c 5 3 true]=_
  have e1:List.take 12 cs=cs:=List.take_of_length_le (by omega)
  have e2:List.take 3 ns=ns:=List.take_of_length_le (by omega)
  simp only [f4,f5,l1,l2,e1,e2,↓vcPre,↓z0,↓reduceIte,vcPost,vcStd,Nat.reduceEqDiff,reduceCtorEq,Nat.reduceAdd,Nat.reduceLeDiff,Int.reduceLT,Int.reduceLE,↓u_setN]
 have bad:∀ (T:Store) (n:Nt) (v:AV),Store.sub σ T→Imp v (.sl 1 (n.2.map cB))→decU inner B = .error n →
  @EndQ [(4,.ptr p4 0),(5,.ptr p5 0)] ((T.set p4 (.box zU)).set p5 (.box [.int .i64 3,.int .i64 n.1,v])) ⟨Ts2.F9.slots,fun r s=>s=σ∧r=outU (decU inner B)⟩:=by
  intro T n v hT hv hd
  refine fin _ zU [.int .i64 3,.int .i64 n.1,v] rfl rfl (by rw [Store.set_ne _ _ h45];exact Store.set_same _ _ _) (Store.set_same _ _ _) ?_
  refine WeakL.pos 0 rfl (Imp.agg z8h (WeakL.pos 1 rfl (Imp.agg (ds:=[.int .i64 3,.int .i64 n.1,.sl 1 (n.2.map cB)]) (.cons (.refl rfl) (.cons (.refl rfl) (.cons hv .nil))) (WeakL.forget (z5 (z5 hT h4) h5) (WeakL.pure ⟨rfl,?_⟩)))))
  simp only [List.set,hd,outU]
 rcases z5m hu with ⟨hc,hb⟩ | ⟨G,A,R,hc,hb⟩
 ·rw [hch] at hb
  simp only at hb
  have hd:decU inner B = .error (1,[]):=by unfold decU;rw [hc]
  rw [hb,xk]
  simp only [↓vcPre,↓z0,↓reduceIte,vcPost,vcStd,Nat.reduceEqDiff,reduceCtorEq,Nat.reduceAdd,Nat.reduceLeDiff,Int.reduceLT,Int.reduceLE,↓u_setN]
  refine (c32 1 .nils ⟨rfl,rfl⟩).Q ?_
  simp only [S4,S5,h54,h45,zl,szz,szn,↓vcPre,↓z0,↓reduceIte,vcPost,vcStd,Nat.reduceEqDiff,reduceCtorEq,Nat.reduceAdd,Nat.reduceLeDiff,Int.reduceLT,Int.reduceLE,↓u_setN]
  exact bad s7 (1,[]) .nils hs7 .nils hd
 ·rw [hch] at hb
  obtain ⟨rfl,rfl,rfl,hbb⟩:G=g.1∧A=a.1∧R=a.2.1∧a.2.2=false:=by
   simp only [Prod.mk.injEq] at hb
   exact ⟨hb.1.symm,hb.2.1.symm,hb.2.2.1.symm,hb.2.2.2⟩
  rw [hbb]
  have hfit:=w6 (n:=(a.2.1.length:Int)) (R:=a.2.1) (by omega) (by omega)
  rw [Int.toNat_natCast,List.take_length] at hfit
  simp only [Bool.false_eq_true,if_false]
  rw [hfit]
  simp only [Ts2.t9_10,yh]
  clear hfit hb hch
  have lG:g.1.length≤1000000:=by omega
  have lA:a.1.length≤1000000:=by omega
  have lR:a.2.1.length≤1000000:=by omega
  have uG:=b2.1
  have uA:=b4.1
  have uR:=b4.2
  generalize g.1=G at lG uG hc ⊢
  generalize a.1=A at lA uA hc ⊢
  generalize a.2.1=R at lR uR hc ⊢
  have hd:decU inner B=match dN G with
   | none => .error (10,[])
   | some w=>match decA inner A with
     | .error n => .error n
     | .ok (at_,ty)=>match dN R with
       | none => .error (10,[])
       | some n=>if n=[] then .ok ⟨w,false,zeroAt,[]⟩ else if lacksF ty inner=0 then .ok ⟨w,true,at_,n⟩ else .error (3,[lacksF ty inner]):=by
   unfold decU;rw [hc];try rfl
  clear hc
  simp only [↓vcPre,↓z0,↓reduceIte,vcPost,vcStd,Nat.reduceEqDiff,reduceCtorEq,Nat.reduceAdd,Nat.reduceLeDiff,Int.reduceLT,Int.reduceLE,↓u_setN]
  refine AllocQ.i0 fun q hq => ?_
  simp only [↓vcPre,↓z0,↓reduceIte,vcPost,vcStd,Nat.reduceEqDiff,reduceCtorEq,Nat.reduceAdd,Nat.reduceLeDiff,Int.reduceLT,Int.reduceLE,↓u_setN]
  have hsq:=Store.sub_set s7 q (.box zU) hq
  have hq4:¬ p4=q:=fun e=>by rw [e,hq] at S4;cases S4
  have hq5:¬ p5=q:=fun e=>by rw [e,hq] at S5;cases S5
  refine (s33 (σ:=s7.set q (.box zU)) (B:=G) Rd.sl lG uG).Q ?_
  rintro r T ⟨rfl,rfl⟩
  have hσq:σ q=none:=zi hs7 hq
  cases hG:dN G with
  | none =>
    rw [hG] at hd
    simp only at hd
    simp only [outN,List.map_nil]
    have sp0:splice 0 [AV.sl 2 []] zU=some (AV.sl 2 []::zU.drop 1):=rfl
    simp only [zl,sp0,↓vcPre,↓z0,↓reduceIte,vcPost,vcStd,Nat.reduceEqDiff,reduceCtorEq,Nat.reduceAdd,Nat.reduceLeDiff,Int.reduceLT,Int.reduceLE,↓u_setN]
    refine (c32 10 .nils ⟨rfl,rfl⟩).Q ?_
    have T4:((s7.set q (.box zU)).set q (.box (AV.sl 2 []::zU.drop 1))) p4=some (.box zU):=by rw [Store.set_ne _ _ hq4,Store.set_ne _ _ hq4];exact S4
    have T5:((s7.set q (.box zU)).set q (.box (AV.sl 2 []::zU.drop 1))) p5=some (.box zN):=by rw [Store.set_ne _ _ hq5,Store.set_ne _ _ hq5];exact S5
    have hT:Store.sub σ ((s7.set q (.box zU)).set q (.box (AV.sl 2 []::zU.drop 1))):=z5 (z5 hs7 hσq) hσq
    generalize ((s7.set q (.box zU)).set q (.box (AV.sl 2 []::zU.drop 1)))=T at T4 T5 hT ⊢
    simp only [T4,T5,h54,h45,zl,szz,szn,↓vcPre,↓z0,↓reduceIte,vcPost,vcStd,Nat.reduceEqDiff,reduceCtorEq,Nat.reduceAdd,Nat.reduceLeDiff,Int.reduceLT,Int.reduceLE,↓u_setN]
    exact bad T (10,[]) .nils hT .nils hd
  | some w =>
    rw [hG] at hd
    simp only at hd
    simp only [outN]
    have sp0:∀ v,splice 0 [v] zU=some (v::zU.drop 1):=fun _=>rfl
    simp only [zl,sp0,↓vcPre,↓z0,↓reduceIte,vcPost,vcStd,Nat.reduceEqDiff,reduceCtorEq,Nat.reduceAdd,Nat.reduceLeDiff,Int.reduceLT,Int.reduceLE,↓u_setN]
    have T4:((s7.set q (.box zU)).set q (.box (AV.sl 2 (w.map pxC)::zU.drop 1))) p4=some (.box zU):=by rw [Store.set_ne _ _ hq4,Store.set_ne _ _ hq4];exact S4
    have T5:((s7.set q (.box zU)).set q (.box (AV.sl 2 (w.map pxC)::zU.drop 1))) p5=some (.box zN):=by rw [Store.set_ne _ _ hq5,Store.set_ne _ _ hq5];exact S5
    have Tq:((s7.set q (.box zU)).set q (.box (AV.sl 2 (w.map pxC)::zU.drop 1))) q=some (.box (AV.sl 2 (w.map pxC)::zU.drop 1)):=Store.set_same _ _ _
    have hT:Store.sub σ ((s7.set q (.box zU)).set q (.box (AV.sl 2 (w.map pxC)::zU.drop 1))):=z5 (z5 hs7 hσq) hσq
    generalize ((s7.set q (.box zU)).set q (.box (AV.sl 2 (w.map pxC)::zU.drop 1)))=T at T4 T5 Tq hT ⊢
    simp only [Ts2.t9_46,w7,x8,yh]
    have e9:∀ x:At,x.c.length=9:=fun _=>rfl
    have t9:∀ x:At,List.take 9 x.c=x.c:=fun _=>rfl
    have spZ:∀ x:At,splice 0 x.c zC=some x.c:=fun _=>rfl
    simp only [↓vcPre,↓z0,↓reduceIte,vcPost,vcStd,Nat.reduceEqDiff,reduceCtorEq,Nat.reduceAdd,Nat.reduceLeDiff,Int.reduceLT,Int.reduceLE,↓u_setN]
    refine (s34 (σ:=T) (B:=A) Rd.sl lA uA inner).Q ?_
    rintro r X ⟨rfl,rfl⟩
    cases hA:decA inner A with
    | error n =>
      rw [hA] at hd
      simp only at hd
      simp only [outD,List.map_nil]
      simp only [↓vcPre,↓z0,↓reduceIte,vcPost,vcStd,Nat.reduceEqDiff,reduceCtorEq,Nat.reduceAdd,Nat.reduceLeDiff,Int.reduceLT,Int.reduceLE,↓u_setN]
      refine AllocQ.i0 fun p12 h12 => ?_
      simp only [↓vcPre,↓z0,↓reduceIte,vcPost,vcStd,Nat.reduceEqDiff,reduceCtorEq,Nat.reduceAdd,Nat.reduceLeDiff,Int.reduceLT,Int.reduceLE,↓u_setN]
      refine AllocQ.i1 fun p14 h1412 h1214 h14 => ?_
      have n4a:¬ p4=p12:=fun e=>by rw [e,h12] at T4;cases T4
      have n4b:¬ p4=p14:=fun e=>by rw [e,h14] at T4;cases T4
      have n5a:¬ p5=p12:=fun e=>by rw [e,h12] at T5;cases T5
      have n5b:¬ p5=p14:=fun e=>by rw [e,h14] at T5;cases T5
      simp only [h1412,h1214,e9,spZ,szn,↓vcPre,↓z0,↓reduceIte,vcPost,vcStd,Nat.reduceEqDiff,reduceCtorEq,Nat.reduceAdd,Nat.reduceLeDiff,Int.reduceLT,Int.reduceLE,↓u_setN]
      have sV:Store.sub X ((((X.set p12 (.box zC)).set p14 (.box zN)).set p12 (.box zeroAt.c)).set p14 (.box [.int .i64 3,.int .i64 n.1,.sl 1 (n.2.map cB)])):=z5 (z5 (zk h12 h14 h1412) h12) h14
      have V14:((((X.set p12 (.box zC)).set p14 (.box zN)).set p12 (.box zeroAt.c)).set p14 (.box [.int .i64 3,.int .i64 n.1,.sl 1 (n.2.map cB)])) p14=some (.box [.int .i64 3,.int .i64 n.1,.sl 1 (n.2.map cB)]):=Store.set_same _ _ _
      have V4:((((X.set p12 (.box zC)).set p14 (.box zN)).set p12 (.box zeroAt.c)).set p14 (.box [.int .i64 3,.int .i64 n.1,.sl 1 (n.2.map cB)])) p4=some (.box zU):=sV _ _ T4
      have V5:=sV _ _ T5
      generalize ((((X.set p12 (.box zC)).set p14 (.box zN)).set p12 (.box zeroAt.c)).set p14 (.box [.int .i64 3,.int .i64 n.1,.sl 1 (n.2.map cB)]))=V at sV V14 V4 V5 ⊢
      have n14:¬ p14=p4:=fun e=>n4b e.symm
      simp only [V14,V4,V5,h54,h45,zl,szz,szn,n14,↓vcPre,↓z0,↓reduceIte,vcPost,vcStd,Nat.reduceEqDiff,reduceCtorEq,Nat.reduceAdd,Nat.reduceLeDiff,Int.reduceLT,Int.reduceLE,↓u_setN]
      have E:=bad V n (.sl 1 (n.2.map cB)) (Store.sub_trans hT sV) (.refl rfl) hd
      exact ⟨fun _=>⟨E,E⟩,fun h=>absurd h (by decide)⟩
    | ok x =>
      obtain ⟨a',ty⟩:=x
      rw [hA] at hd
      simp only at hd
      have hty:ty.length≤1000000:=by
       obtain ⟨A',T',p,q',M,h1,h2,h3⟩:=z7e inner uA lA
       rw [hA] at h3
       simp only [outD,AV.tup.injEq,List.cons.injEq,AV.sl.injEq,true_and] at h3
       have:=congrArg List.length h3.2.1
       simp only [List.length_map] at this
       omega
      simp only [outD,List.map_nil]
      simp only [↓vcPre,↓z0,↓reduceIte,vcPost,vcStd,Nat.reduceEqDiff,reduceCtorEq,Nat.reduceAdd,Nat.reduceLeDiff,Int.reduceLT,Int.reduceLE,↓u_setN]
      refine AllocQ.i0 fun p12 h12 => ?_
      simp only [↓vcPre,↓z0,↓reduceIte,vcPost,vcStd,Nat.reduceEqDiff,reduceCtorEq,Nat.reduceAdd,Nat.reduceLeDiff,Int.reduceLT,Int.reduceLE,↓u_setN]
      refine AllocQ.i1 fun p14 h1412 h1214 h14 => ?_
      simp only [h1412,h1214,e9,spZ,szn,↓vcPre,↓z0,↓reduceIte,vcPost,vcStd,Nat.reduceEqDiff,reduceCtorEq,Nat.reduceAdd,Nat.reduceLeDiff,Int.reduceLT,Int.reduceLE,↓u_setN]
      have sV:Store.sub X ((((X.set p12 (.box zC)).set p14 (.box zN)).set p12 (.box a'.c)).set p14 (.box [.int .i64 0,.int .i64 0,.sl 1 []])):=z5 (z5 (zk h12 h14 h1412) h12) h14
      have V14:((((X.set p12 (.box zC)).set p14 (.box zN)).set p12 (.box a'.c)).set p14 (.box [.int .i64 0,.int .i64 0,.sl 1 []])) p14=some (.box [.int .i64 0,.int .i64 0,.sl 1 []]):=Store.set_same _ _ _
      have V12:((((X.set p12 (.box zC)).set p14 (.box zN)).set p12 (.box a'.c)).set p14 (.box [.int .i64 0,.int .i64 0,.sl 1 []])) p12=some (.box a'.c):=by rw [Store.set_ne _ _ h1214];exact Store.set_same _ _ _
      have V4:=sV _ _ T4
      have V5:=sV _ _ T5
      have Vq:=sV _ _ Tq
      have hqX:¬ p12=q:=fun e=>by rw [e,Tq] at h12;cases h12
      generalize ((((X.set p12 (.box zC)).set p14 (.box zN)).set p12 (.box a'.c)).set p14 (.box [.int .i64 0,.int .i64 0,.sl 1 []]))=V at sV V14 V12 V4 V5 Vq ⊢
      have hσV:=Store.sub_trans hT sV
      simp only [Ts2.t9_58,yh]
      simp only [↓vcPre,↓z0,↓reduceIte,vcPost,vcStd,Nat.reduceEqDiff,reduceCtorEq,Nat.reduceAdd,Nat.reduceLeDiff,Int.reduceLT,Int.reduceLE,↓u_setN]
      refine (s33 (σ:=V) (B:=R) Rd.sl lR uR).Q ?_
      rintro r W ⟨rfl,rfl⟩
      have sp11:∀ v u,splice 11 [v] (u::zU.drop 1)=some (upC u false zeroAt v |> fun _=>u :: .bool false::(zC++[v])):=fun _ _=>rfl
      cases hR:dN R with
      | none =>
        rw [hR] at hd
        simp only at hd
        simp only [outN,List.map_nil]
        simp only [Vq,zl,sp11,↓vcPre,↓z0,↓reduceIte,vcPost,vcStd,Nat.reduceEqDiff,reduceCtorEq,Nat.reduceAdd,Nat.reduceLeDiff,Int.reduceLT,Int.reduceLE,↓u_setN]
        refine (c32 10 .nils ⟨rfl,rfl⟩).Q ?_
        have W4:=(Store.set_ne W (.box (AV.sl 2 (w.map pxC) :: .bool false::(zC++[.sl 2 []]))) hq4).trans V4
        have W5:=(Store.set_ne W (.box (AV.sl 2 (w.map pxC) :: .bool false::(zC++[.sl 2 []]))) hq5).trans V5
        have hW:=z5 (o := .box (AV.sl 2 (w.map pxC) :: .bool false::(zC++[.sl 2 []]))) hσV hσq
        generalize W.set q (.box (AV.sl 2 (w.map pxC) :: .bool false::(zC++[.sl 2 []])))=Y at W4 W5 hW ⊢
        simp only [W4,W5,h54,h45,zl,szz,szn,↓vcPre,↓z0,↓reduceIte,vcPost,vcStd,Nat.reduceEqDiff,reduceCtorEq,Nat.reduceAdd,Nat.reduceLeDiff,Int.reduceLT,Int.reduceLE,↓u_setN]
        exact bad Y (10,[]) .nils hW .nils hd
      | some nl =>
        rw [hR] at hd
        simp only at hd
        simp only [outN]
        simp only [Vq,zl,sp11,↓vcPre,↓z0,↓reduceIte,vcPost,vcStd,Nat.reduceEqDiff,reduceCtorEq,Nat.reduceAdd,Nat.reduceLeDiff,Int.reduceLT,Int.reduceLE,↓u_setN]
        have W4:=(Store.set_ne W (.box (AV.sl 2 (w.map pxC) :: .bool false::(zC++[.sl 2 (nl.map pxC)]))) hq4).trans V4
        have W5:=(Store.set_ne W (.box (AV.sl 2 (w.map pxC) :: .bool false::(zC++[.sl 2 (nl.map pxC)]))) hq5).trans V5
        have W12:=(Store.set_ne W (.box (AV.sl 2 (w.map pxC) :: .bool false::(zC++[.sl 2 (nl.map pxC)]))) hqX).trans V12
        have Wq:(W.set q (.box (AV.sl 2 (w.map pxC) :: .bool false::(zC++[.sl 2 (nl.map pxC)])))) q=some (.box (AV.sl 2 (w.map pxC) :: .bool false::(zC++[.sl 2 (nl.map pxC)]))):=Store.set_same _ _ _
        have hW:=z5 (o := .box (AV.sl 2 (w.map pxC) :: .bool false::(zC++[.sl 2 (nl.map pxC)]))) hσV hσq
        generalize W.set q (.box (AV.sl 2 (w.map pxC) :: .bool false::(zC++[.sl 2 (nl.map pxC)])))=Y at W4 W5 W12 Wq hW ⊢
        simp only [Ts2.t9_67,yh,x8]
        have q9:∀ (u:AV),List.take 1 (List.drop 9 (zC++[u]))=[u]:=fun _=>rfl
        have l10:∀ u:AV,List.take 10 (zC++[u])=zC++[u]:=fun _=>rfl
        have z10:∀ u:AV,(zC++[u]).length=10:=fun _=>rfl
        have s12:∀ l:List AV,l.length=12→splice 0 l zU=some l:=fun l h=>zq _ _ (by rw [h];rfl)
        have sA:=s12 (AV.sl 2 (w.map pxC) :: .bool false::(zC++[.sl 2 (nl.map pxC)])) rfl
        have zn:zN.length=3:=rfl
        have snn:splice 0 zN zN=some zN:=rfl
        have uC:∀ (b:Bool) (x:At),upC (.sl 2 (w.map pxC)) b x (.sl 2 (nl.map pxC))=(⟨w,b,x,nl⟩:Up).c:=fun _ _=>rfl
        simp only [Wq,q9,l10,z10,W4,W5,h54,h45,sA,zn,snn,↓vcPre,↓z0,↓reduceIte,vcPost,vcStd,Nat.reduceEqDiff,reduceCtorEq,Nat.reduceAdd,Nat.reduceLeDiff,Int.reduceLT,Int.reduceLE,↓u_setN]
        refine ⟨fun c1 => ?_,fun c1 => ?_⟩
        ·have hn0:nl=[]:=by cases nl with | nil=>rfl | cons x l=>simp at c1;omega
         rw [if_pos hn0] at hd
         refine fin _ (AV.sl 2 (w.map pxC) :: .bool false::(zC++[.sl 2 (nl.map pxC)])) zN rfl rfl (by rw [Store.set_ne _ _ h45];exact Store.set_same _ _ _) (Store.set_same _ _ _) ?_
         refine WeakL.pos 0 rfl (Imp.agg (ds:=(⟨w,false,zeroAt,[]⟩:Up).c) ?_ (WeakL.pos 1 rfl (Imp.agg (ds:=[.int .i64 0,.int .i64 0,.sl 1 []]) (.cons (.refl rfl) (.cons (.refl rfl) (.cons .nils .nil))) (WeakL.forget (z5 (z5 hW h4) h5) (WeakL.pure ⟨rfl,?_⟩)))))
         ·rw [hn0]
          exact show ImpL (AV.sl 2 (w.map pxC) :: .bool false::(zC++[.sl 2 []])) (AV.sl 2 (w.map pxC) :: .bool false::(zeroAt.c++[.sl 2 []])) from .cons (.refl rfl) (.cons (.refl rfl) (zC_imp.append (.cons (.refl rfl) .nil)))
         ·simp only [List.set,hd,outU]
        ·have hn0:nl≠[]:=fun e=>by rw [e] at c1;simp at c1
         rw [if_neg hn0] at hd
         simp only [Ts2.t9_73,yh]
         simp only [↓vcPre,↓z0,↓reduceIte,vcPost,vcStd,Nat.reduceEqDiff,reduceCtorEq,Nat.reduceAdd,Nat.reduceLeDiff,Int.reduceLT,Int.reduceLE,↓u_setN]
         refine (c35 ty hty inner).Q ?_
         simp only [↓vcPre,↓z0,↓reduceIte,vcPost,vcStd,Nat.reduceEqDiff,reduceCtorEq,Nat.reduceAdd,Nat.reduceLeDiff,Int.reduceLT,Int.reduceLE,↓u_setN]
         obtain ⟨g0,g5⟩:=z3l ty inner
         refine ⟨fun c2 => ?_,fun c2 => ?_⟩
         ·rw [if_neg (by omega)] at hd
          have w8:IntKind.u8.wrap (lacksF ty inner)=lacksF ty inner:=by simp [IntKind.wrap,IntKind.bits,IntKind.signed];omega
          refine AllocQ.i0 fun d hd' => ?_
          simp only [w8,↓vcPre,↓z0,↓reduceIte,vcPost,vcStd,Nat.reduceEqDiff,reduceCtorEq,Nat.reduceAdd,Nat.reduceLeDiff,Int.reduceLT,Int.reduceLE,↓u_setN]
          have hsd:=Store.sub_set Y d (.arr 1 [[.int .u8 (lacksF ty inner)]]) hd'
          have Dd:(Y.set d (.arr 1 [[.int .u8 (lacksF ty inner)]])) d=some (.arr 1 [[.int .u8 (lacksF ty inner)]]):=Store.set_same _ _ _
          have D4:=hsd _ _ W4
          have D5:=hsd _ _ W5
          have hσd:σ d=none:=zi hW hd'
          have hd4:¬ d=p4:=fun e=>by rw [e,W4] at hd';cases hd'
          have hd5:¬ d=p5:=fun e=>by rw [e,W5] at hd';cases hd'
          have hDs:=Store.sub_trans hW hsd
          generalize Y.set d (.arr 1 [[.int .u8 (lacksF ty inner)]])=D at Dd D4 D5 hDs ⊢
          refine (c32 3 (.os d 1 0 1) ⟨rfl,rfl⟩).Q ?_
          simp only [D4,D5,h54,h45,zl,szz,szn,↓vcPre,↓z0,↓reduceIte,vcPost,vcStd,Nat.reduceEqDiff,reduceCtorEq,Nat.reduceAdd,Nat.reduceLeDiff,Int.reduceLT,Int.reduceLE,↓u_setN]
          refine fin _ zU [.int .i64 3,.int .i64 3,.os d 1 0 1] rfl rfl (by rw [Store.set_ne _ _ h45];exact Store.set_same _ _ _) (Store.set_same _ _ _) ?_
          have Ed:((D.set p4 (.box zU)).set p5 (.box [.int .i64 3,.int .i64 3,.os d 1 0 1])) d=some (.arr 1 [[.int .u8 (lacksF ty inner)]]):=by rw [Store.set_ne _ _ hd5,Store.set_ne _ _ hd4];exact Dd
          have hE:Store.sub σ ((D.set p4 (.box zU)).set p5 (.box [.int .i64 3,.int .i64 3,.os d 1 0 1])):=z5 (z5 hDs h4) h5
          generalize (D.set p4 (.box zU)).set p5 (.box [.int .i64 3,.int .i64 3,.os d 1 0 1])=E at Ed hE ⊢
          refine WeakL.pos 0 rfl (Imp.agg z8h (WeakL.pos 1 rfl (Weak.agg (WeakL.freeze 2 rfl Ed (by simp) (WeakL.pure ⟨?_,WeakL.forget (sub_del hE hσd) (WeakL.pure ⟨rfl,?_⟩)⟩)))))
          ·simp [AV.flat]
          ·simp only [List.set,hd,outU];rfl
         ·have e0:lacksF ty inner=0:=by omega
          rw [if_pos e0] at hd
          simp only [Ts2.t9_84,yh,x8]
          have k1:∀ (v u:AV),splice 1 [.bool true] (v :: .bool false::(zC++[u]))=some (v :: .bool true::(zC++[u])):=fun _ _=>rfl
          have k2:∀ (v u:AV),splice 2 a'.c (v :: .bool true::(zC++[u]))=some (v :: .bool true::(a'.c++[u])):=fun _ _=>rfl
          have l10':∀ u:AV,List.take 10 (a'.c++[u])=a'.c++[u]:=fun _=>rfl
          have a10:∀ u:AV,(a'.c++[u]).length=10:=fun _=>rfl
          have sB:=s12 (AV.sl 2 (w.map pxC) :: .bool true::(a'.c++[.sl 2 (nl.map pxC)])) rfl
          simp only [W12,Wq,e9,t9,Nat.le_refl,k1,k2,l10',a10,hq4,hq5,hqX,W4,W5,h54,h45,sB,zn,snn,↓vcPre,↓z0,↓reduceIte,vcPost,vcStd,Nat.reduceEqDiff,reduceCtorEq,Nat.reduceAdd,Nat.reduceLeDiff,Int.reduceLT,Int.reduceLE,↓u_setN]
          have fini:∀ T:Store,T p4=some (.box (⟨w,true,a',nl⟩:Up).c)→T p5=some (.box zN)→Store.sub σ T → @EndQ [(4,.ptr p4 0),(5,.ptr p5 0)] T ⟨Ts2.F9.slots,fun r s=>s=σ∧r=outU (decU inner B)⟩:=by
           intro T f4 f5 hT'
           refine fin T _ zN rfl rfl f4 f5 ?_
           refine WeakL.pos 1 rfl (Imp.agg (ds:=[.int .i64 0,.int .i64 0,.sl 1 []]) (.cons (.refl rfl) (.cons (.refl rfl) (.cons .nils .nil))) (WeakL.forget hT' (WeakL.pure ⟨rfl,?_⟩)))
           simp only [List.set,hd,outU]
          have hf:=fini ((((Y.set q (.box (AV.sl 2 (w.map pxC) :: .bool true::(zC++[.sl 2 (nl.map pxC)])))).set q (.box (AV.sl 2 (w.map pxC) :: .bool true::(a'.c++[.sl 2 (nl.map pxC)])))).set p4 (.box (AV.sl 2 (w.map pxC) :: .bool true::(a'.c++[.sl 2 (nl.map pxC)])))).set p5 (.box zN)) (by rw [Store.set_ne _ _ h45];exact Store.set_same _ _ _) (Store.set_same _ _ _) (z5 (z5 (z5 (z5 hW hσq) hσq) h4) h5)
          first | exact ⟨hf,hf⟩ | exact hf
end Go.Am
namespace Go.Am
open Go.Proofs Go.Sort
theorem zex {σ s:Store} {W N:List (Int×Int)} {wv nv:AV} {b:Bool} {ac:List AV} {a:At} {Q:AV→Store→Prop} (h:OwnW σ W wv N nv s) (hs:Store.sub σ s) (hac:ImpL ac a.c) (hQ:Q (.agg (⟨W,b,a,N⟩:Up).c) σ):Weak (.agg (wv :: .bool b::(ac++[nv]))) s Q:=by
 have h12:∀ v w:AV,(upC v b a w)[11]? = some w:=fun _ _=>rfl
 have s0:∀ u v w:AV,(upC v b a w).set 0 u=upC u b a w:=fun _ _ _=>rfl
 have s11:∀ u v w:AV,(upC v b a w).set 11 u=upC v b a u:=fun _ _ _=>rfl
 obtain ⟨h1,h2,h3⟩:=h
 have hf1:wv.flat=true:=by rcases h1 with ⟨_,rfl⟩ | ⟨g,rfl,_⟩ <;> rfl
 have hf2:nv.flat=true:=by rcases h2 with ⟨_,rfl⟩ | ⟨g,rfl,_⟩ <;> rfl
 have hi:ImpL (wv :: .bool b::(ac++[nv])) (upC wv b a nv) := .cons (.refl hf1) (.cons (.refl rfl) (hac.append (.cons (.refl hf2) .nil)))
 have hfl:∀ c ∈ (⟨W,b,a,N⟩:Up).c,c.flat=true:=by
  intro c hc
  simp only [Up.c,upC,At.c,List.mem_cons,List.mem_append,List.not_mem_nil,or_false] at hc
  rcases hc with rfl | rfl | (rfl | rfl | rfl | rfl | rfl | rfl | rfl | rfl | rfl) | rfl <;> rfl
 refine Weak.agg (WeakL.imp hi ?_)
 have last:∀ (t:Store),Store.sub σ t→Own 2 σ (N.map pxC) nv t→WeakL (upC (.sl 2 (W.map pxC)) b a nv) t (fun cs u=>(∀ c ∈ cs,c.flat=true)∧Q (.agg cs) u):=by
  intro t ht hn
  rcases hn with ⟨e,rfl⟩ | ⟨g,rfl,hg,hh⟩
  ·refine WeakL.nil 11 2 (h12 _ _) ?_
   rw [s11]
   have:N=[]:=List.map_eq_nil_iff.1 e
   subst this
   exact WeakL.forget ht (WeakL.pure ⟨hfl,hQ⟩)
  ·refine WeakL.freeze 11 (h12 _ _) hh (by omega) ?_
   rw [s11,List.drop_zero,List.take_of_length_le (Nat.le_refl _)]
   exact WeakL.forget (sub_del ht hg) (WeakL.pure ⟨hfl,hQ⟩)
 rcases h1 with ⟨e,rfl⟩ | ⟨g,rfl,hg,hh⟩
 ·refine WeakL.nil 0 2 rfl ?_
  rw [s0]
  have:W=[]:=List.map_eq_nil_iff.1 e
  subst this
  exact last s hs h2
 ·refine WeakL.freeze 0 rfl hh (by omega) ?_
  rw [s0,List.drop_zero,List.take_of_length_le (Nat.le_refl _)]
  refine last _ (sub_del hs hg) ?_
  rcases h2 with h2 | ⟨g2,f1,f2,f3⟩
  ·exact .inl h2
  ·exact .inr ⟨g2,f1,f2,by rw [Store.del_ne _ (fun e=>by subst e;exact h3 _ _ _ rfl f1)];exact f3⟩
def right9U (x:Raw9):Up:=⟨W9 x,decide (N9 x≠[]),A9 x,N9 x⟩
structure Raw9.Ok (x:Raw9):Prop where
 w:Small x.w
 n:Small x.n
 wl:Small x.wl
 nl:Small x.nl
 wl2:∀ v ∈ x.wl,I64 v
 nl2:∀ v ∈ x.nl,I64 v
 org:I64 x.a.org
 num:okNums x.a
theorem c6 (x:Raw9) (h:x.Ok):Pur Tryz.prog 6 [.agg x.c] (.agg (right9U x).c):=by
 intro σ
 refine (so6 x h.w h.n h.wl h.nl h.org h.wl2 h.nl2 σ).weakRes ?_
 rintro r s ⟨wv,nv,ac,rfl,hac,hs,ho⟩
 exact zex ho hs hac ⟨rfl,rfl⟩
theorem xw (l:List (Int×Int)):Rights (l.map anyP)∧U32p (l.map anyP):=by
 constructor
 ·intro p hp
  obtain ⟨q,_,rfl⟩:=List.mem_map.1 hp
  exact (z2g _ _).1
 ·intro p hp
  obtain ⟨q,_,rfl⟩:=List.mem_map.1 hp
  exact (z2g _ _).2
theorem vh (x:Raw9):(W9 x).length≤20∧(N9 x).length≤20:=by
 simp only [W9,N9,List.length_map,qp];omega
def u16 (n:Nat):List Int:=[(n:Int) / 256 % 256,(n:Int) % 256]
theorem z25 {w a r:List Int} (hw:w.length<65536) (ha:a.length<65536):cutU (u16 w.length++w++(u16 a.length++a)++r)=some (w,a,r):=by
 have e1:(w.length:Int) / 256 % 256*256+(w.length:Int) % 256=(w.length:Int):=by omega
 have e2:(a.length:Int) / 256 % 256*256+(a.length:Int) % 256=(a.length:Int):=by omega
 simp only [u16,List.cons_append,List.nil_append,List.append_assoc,cutU,e1,Int.toNat_natCast,List.drop_left,List.take_left]
 rw [if_neg (by rw [List.length_append];omega)]
 simp only [e2,Int.toNat_natCast,List.drop_left,List.take_left]
 rw [if_neg (by rw [List.length_append];omega)]
theorem z03 {l:List (Int×Int)} (h:Rights l):U8s (encN l):=by
 intro x hx
 simp only [encN,List.mem_flatMap] at hx
 obtain ⟨p,hp,hx⟩:=hx
 have:=ye (h p hp)
 simp only [pxB,List.mem_cons] at hx
 rcases hx with rfl | hx
 ·omega
 ·exact z0y _ _ (List.mem_of_mem_take hx)
theorem z1m (n:Nat):U8s (u16 n):=by
 intro x hx
 simp only [u16,List.mem_cons,List.not_mem_nil,or_false] at hx
 omega
end Go.Am
namespace Go.Am
open Go.Proofs
theorem zgv (xs:List AV) (h:TOk Tryz.prog 6 29 xs):∃ r:Raw9,ImpL xs r.c∧r.Ok:=by
 obtain ⟨a1,b1,rfl,h1,a2,b2,rfl,h2,a3,b3,rfl,h3,a4,b4,rfl,h4,a5,b5,rfl,h5,a6,b6,rfl,h6,rfl⟩:=TOk.struct (ts:=[22,22,23,23,4,27]) Tryz.underlying29 rfl h
 obtain ⟨w,hw,zw,_⟩:=TOk.slI (sz:=1) (by_:=4) Tryz.underlying22 (by kernel_rfl) (by kernel_rfl) cU (fun r=>0≤r∧r<4294967296) dU h1
 obtain ⟨n,hn,zn,_⟩:=TOk.slI (sz:=1) (by_:=4) Tryz.underlying22 (by kernel_rfl) (by kernel_rfl) cU (fun r=>0≤r∧r<4294967296) dU h2
 obtain ⟨wl,hwl,zwl,owl⟩:=TOk.slI (sz:=1) (by_:=8) Tryz.underlying23 (by kernel_rfl) (by kernel_rfl) cI I64 dI h3
 obtain ⟨nl,hnl,znl,onl⟩:=TOk.slI (sz:=1) (by_:=8) Tryz.underlying23 (by kernel_rfl) (by kernel_rfl) cI I64 dI h4
 obtain ⟨m,rfl⟩:=TOk.bool Tryz.underlying4 h5
 obtain ⟨a,ha,o1,o2⟩:=dAt _ h6
 refine ⟨⟨w,n,wl,nl,m,a⟩,?_,uz (by omega) zw,uz (by omega) zn,uz (by omega) zwl,uz (by omega) znl,owl,onl,o1,o2⟩
 exact hw.append (hn.append (hwl.append (hnl.append ((ImpL.one rfl).append (by
  show ImpL (a6++[]) a.c
  rw [List.append_nil]
  exact ha)))))
theorem zhg {w:World} {a:List AV} {v:Array Value} (hr:VRel (G0 w) w (.agg a) (.agg v)) (h:TOk Tryz.prog 6 29 a):∃ r:Raw9,VRel (G0 w) w (.agg r.c) (.agg v)∧r.Ok:=by
 obtain ⟨r,hi,ho⟩:=zgv _ h
 exact ⟨r,zaq hi hr,ho⟩
end Go.Am
namespace Go.Am
open Go.Proofs
theorem wfI {n:Int} (h:(Lit.int .i64 n).wf=true):I64 n:=by
 simp only [Lit.wf,Bool.and_eq_true,decide_eq_true_eq] at h
 exact h
end Go.Am
namespace Go.Am
open Go.Proofs Go.Sort
theorem z0o (inner:Bool):decA inner [] = .ok (canonA zeroAt,[]):=by rw [z4w,z3c];simp
theorem k9a (inner:Bool):decU inner [0,0,0,0] = .ok ⟨[],false,zeroAt,[]⟩:=by
 unfold decU
 rw [show cutU [0,0,0,0]=some ([],[],[]) from rfl]
 simp only [uh,z0o,if_true]
theorem k9b (inner:Bool):decU inner [0] = .error (1,[]):=rfl
theorem k9c:decU false [0,0,0,0,8,10] = .error (3,[1]):=by
 unfold decU
 rw [show cutU [0,0,0,0,8,10]=some ([],[],[8,10]) from rfl]
 have h:dN [8,10]=some [ofF (val4 [10]) 8]:=by
  rw [vd,if_neg (by decide),if_neg (by decide)]
  rw [show ([10]:List Int).drop (szN 8)=[] from rfl,uh];rfl
 simp only [uh,z0o,h]
 rw [if_neg (by simp),if_neg (by decide)]
 rfl
theorem zj (u:Up):u.c.length=12:=rfl
theorem we (u:Up):splice 0 u.c zU=some u.c:=zq _ _ rfl
set_option maxHeartbeats 1000000 in
theorem c8:Pur Tryz.prog 8 [] (.bool true):=by
 refine zh Tst.F8 (by simp [Tst.F8,Fn.mkX]) fun σ => ?_
 simp only [Tst.F8,Fn.mkX,Tst.b8,yh,x8]
 have szn:∀ x y z:AV,splice 0 [x,y,z] zN=some [x,y,z]:=fun _ _ _=>rfl
 have u4:U8s [0,0,0,0]:=by intro x hx;simp at hx;omega
 have u1:U8s [0]:=by intro x hx;simp at hx;omega
 have u6:U8s [0,0,0,0,8,10]:=by intro x hx;simp at hx;omega
 simp only [z84,↓vcPre,↓z0,↓reduceIte,vcPost,vcStd,Nat.reduceEqDiff,reduceCtorEq,Nat.reduceAdd,Nat.reduceLeDiff,Int.reduceLT,Int.reduceLE,↓u_setN]
 refine AllocQ.i0 fun q1 hq1 => ?_
 simp only [↓vcPre,↓z0,↓reduceIte,vcPost,vcStd,Nat.reduceEqDiff,reduceCtorEq,Nat.reduceAdd,Nat.reduceLeDiff,Int.reduceLT,Int.reduceLE,↓u_setN]
 have sT:=Store.sub_set σ q1 (.arr 1 [[.int .u8 0],[.int .u8 0],[.int .u8 0],[.int .u8 0]]) hq1
 have T1:(σ.set q1 (.arr 1 [[.int .u8 0],[.int .u8 0],[.int .u8 0],[.int .u8 0]])) q1=some (.arr 1 (([0,0,0,0]:List Int).map cB)):=Store.set_same _ _ _
 generalize σ.set q1 (.arr 1 [[.int .u8 0],[.int .u8 0],[.int .u8 0],[.int .u8 0]])=T at sT T1 ⊢
 have D1:=s9 (Rd.os T1) (by simp) u4 false
 rw [k9a] at D1
 refine D1.Q ?_
 rintro r t ⟨rfl,rfl⟩
 simp only [outU]
 simp only [↓vcPre,↓z0,↓reduceIte,vcPost,vcStd,Nat.reduceEqDiff,reduceCtorEq,Nat.reduceAdd,Nat.reduceLeDiff,Int.reduceLT,Int.reduceLE,↓u_setN]
 refine AllocQ.i0 fun p1 hp1 => ?_
 simp only [↓vcPre,↓z0,↓reduceIte,vcPost,vcStd,Nat.reduceEqDiff,reduceCtorEq,Nat.reduceAdd,Nat.reduceLeDiff,Int.reduceLT,Int.reduceLE,↓u_setN]
 refine AllocQ.i1 fun p2 h21 h12 hp2 => ?_
 simp only [h21,h12,zj,we,szn,↓vcPre,↓z0,↓reduceIte,vcPost,vcStd,Nat.reduceEqDiff,reduceCtorEq,Nat.reduceAdd,Nat.reduceLeDiff,Int.reduceLT,Int.reduceLE,↓u_setN]
 have sU:Store.sub t ((((t.set p1 (.box zU)).set p2 (.box zN)).set p1 (.box (⟨[],false,zeroAt,[]⟩:Up).c)).set p2 (.box [.int .i64 0,.int .i64 0,.sl 1 []])):=z5 (z5 (zk hp1 hp2 h21) hp1) hp2
 have U2:((((t.set p1 (.box zU)).set p2 (.box zN)).set p1 (.box (⟨[],false,zeroAt,[]⟩:Up).c)).set p2 (.box [.int .i64 0,.int .i64 0,.sl 1 []])) p2=some (.box [.int .i64 0,.int .i64 0,.sl 1 []]):=Store.set_same _ _ _
 have U1:((((t.set p1 (.box zU)).set p2 (.box zN)).set p1 (.box (⟨[],false,zeroAt,[]⟩:Up).c)).set p2 (.box [.int .i64 0,.int .i64 0,.sl 1 []])) p1=some (.box (⟨[],false,zeroAt,[]⟩:Up).c):=by rw [Store.set_ne _ _ h12];exact Store.set_same _ _ _
 generalize ((((t.set p1 (.box zU)).set p2 (.box zN)).set p1 (.box (⟨[],false,zeroAt,[]⟩:Up).c)).set p2 (.box [.int .i64 0,.int .i64 0,.sl 1 []]))=U at sU U1 U2 ⊢
 have mk1:alv (.mksl 1 1) [.int .u8 0]=some (.arr 1 [[.int .u8 0]],fun id => .os id 1 0 1):=rfl
 refine AllocQ.i0 fun q2 hq2 => ?_
 simp only [↓vcPre,↓z0,↓reduceIte,vcPost,vcStd,Nat.reduceEqDiff,reduceCtorEq,Nat.reduceAdd,Nat.reduceLeDiff,Int.reduceLT,Int.reduceLE,↓u_setN]
 have sV:=Store.sub_set U q2 (.arr 1 [[.int .u8 0]]) hq2
 have V1:(U.set q2 (.arr 1 [[.int .u8 0]])) q2=some (.arr 1 (([0]:List Int).map cB)):=Store.set_same _ _ _
 generalize U.set q2 (.arr 1 [[.int .u8 0]])=V at sV V1 ⊢
 have D2:=s9 (Rd.os V1) (by simp) u1 false
 rw [k9b] at D2
 refine D2.Q ?_
 rintro r w ⟨rfl,rfl⟩
 simp only [outU,List.map_nil]
 simp only [↓vcPre,↓z0,↓reduceIte,vcPost,vcStd,Nat.reduceEqDiff,reduceCtorEq,Nat.reduceAdd,Nat.reduceLeDiff,Int.reduceLT,Int.reduceLE,↓u_setN]
 refine AllocQ.i0 fun p3 hp3 => ?_
 simp only [↓vcPre,↓z0,↓reduceIte,vcPost,vcStd,Nat.reduceEqDiff,reduceCtorEq,Nat.reduceAdd,Nat.reduceLeDiff,Int.reduceLT,Int.reduceLE,↓u_setN]
 refine AllocQ.i1 fun p4 h43 h34 hp4 => ?_
 simp only [h43,h34,zj,we,szn,↓vcPre,↓z0,↓reduceIte,vcPost,vcStd,Nat.reduceEqDiff,reduceCtorEq,Nat.reduceAdd,Nat.reduceLeDiff,Int.reduceLT,Int.reduceLE,↓u_setN]
 have sW:Store.sub w ((((w.set p3 (.box zU)).set p4 (.box zN)).set p3 (.box zeroUp.c)).set p4 (.box [.int .i64 3,.int .i64 1,.sl 1 []])):=z5 (z5 (zk hp3 hp4 h43) hp3) hp4
 have W4:((((w.set p3 (.box zU)).set p4 (.box zN)).set p3 (.box zeroUp.c)).set p4 (.box [.int .i64 3,.int .i64 1,.sl 1 []])) p4=some (.box [.int .i64 3,.int .i64 1,.sl 1 []]):=Store.set_same _ _ _
 generalize ((((w.set p3 (.box zU)).set p4 (.box zN)).set p3 (.box zeroUp.c)).set p4 (.box [.int .i64 3,.int .i64 1,.sl 1 []]))=W at sW W4 ⊢
 have m6:alv (.mksl 1 6) [.int .u8 0,.int .u8 0,.int .u8 0,.int .u8 0,.int .u8 8,.int .u8 10]=some (.arr 1 [[.int .u8 0],[.int .u8 0],[.int .u8 0],[.int .u8 0],[.int .u8 8],[.int .u8 10]],fun id => .os id 1 0 6):=rfl
 simp only [m6,↓vcPre,↓z0,↓reduceIte,vcPost,vcStd,Nat.reduceEqDiff,reduceCtorEq,Nat.reduceAdd,Nat.reduceLeDiff,Int.reduceLT,Int.reduceLE,↓u_setN]
 refine AllocQ.i0 fun q3 hq3 => ?_
 simp only [↓vcPre,↓z0,↓reduceIte,vcPost,vcStd,Nat.reduceEqDiff,reduceCtorEq,Nat.reduceAdd,Nat.reduceLeDiff,Int.reduceLT,Int.reduceLE,↓u_setN]
 have sX:=Store.sub_set W q3 (.arr 1 [[.int .u8 0],[.int .u8 0],[.int .u8 0],[.int .u8 0],[.int .u8 8],[.int .u8 10]]) hq3
 have X1:(W.set q3 (.arr 1 [[.int .u8 0],[.int .u8 0],[.int .u8 0],[.int .u8 0],[.int .u8 8],[.int .u8 10]])) q3=some (.arr 1 (([0,0,0,0,8,10]:List Int).map cB)):=Store.set_same _ _ _
 generalize W.set q3 (.arr 1 [[.int .u8 0],[.int .u8 0],[.int .u8 0],[.int .u8 0],[.int .u8 8],[.int .u8 10]])=X at sX X1 ⊢
 have D3:=s9 (Rd.os X1) (by simp) u6 false
 rw [k9c] at D3
 refine D3.Q ?_
 rintro r y ⟨rfl,rfl⟩
 simp only [outU]
 simp only [↓vcPre,↓z0,↓reduceIte,vcPost,vcStd,Nat.reduceEqDiff,reduceCtorEq,Nat.reduceAdd,Nat.reduceLeDiff,Int.reduceLT,Int.reduceLE,↓u_setN]
 refine AllocQ.i0 fun p5 hp5 => ?_
 simp only [↓vcPre,↓z0,↓reduceIte,vcPost,vcStd,Nat.reduceEqDiff,reduceCtorEq,Nat.reduceAdd,Nat.reduceLeDiff,Int.reduceLT,Int.reduceLE,↓u_setN]
 refine AllocQ.i1 fun p6 h65 h56 hp6 => ?_
 simp only [h65,h56,zj,we,szn,↓vcPre,↓z0,↓reduceIte,vcPost,vcStd,Nat.reduceEqDiff,reduceCtorEq,Nat.reduceAdd,Nat.reduceLeDiff,Int.reduceLT,Int.reduceLE,↓u_setN]
 have sY:Store.sub y ((((y.set p5 (.box zU)).set p6 (.box zN)).set p5 (.box zeroUp.c)).set p6 (.box [.int .i64 3,.int .i64 3,.sl 1 (([1]:List Int).map cB)])):=z5 (z5 (zk hp5 hp6 h65) hp5) hp6
 have Y6:((((y.set p5 (.box zU)).set p6 (.box zN)).set p5 (.box zeroUp.c)).set p6 (.box [.int .i64 3,.int .i64 3,.sl 1 (([1]:List Int).map cB)])) p6=some (.box [.int .i64 3,.int .i64 3,.sl 1 (([1]:List Int).map cB)]):=Store.set_same _ _ _
 generalize ((((y.set p5 (.box zU)).set p6 (.box zN)).set p5 (.box zeroUp.c)).set p6 (.box [.int .i64 3,.int .i64 3,.sl 1 (([1]:List Int).map cB)]))=Y at sY Y6 ⊢
 have sUY:Store.sub U Y:=Store.sub_trans sV (Store.sub_trans sW (Store.sub_trans sX sY))
 have Y1:=sUY _ _ U1
 have Y2:=sUY _ _ U2
 have Y4:=sY _ _ (sX _ _ W4)
 have g1:List.take 1 (List.drop 1 (⟨[],false,zeroAt,[]⟩:Up).c)=[.bool false]:=rfl
 have g11:List.take 1 (List.drop 11 (⟨[],false,zeroAt,[]⟩:Up).c)=[.sl 2 []]:=rfl
 have l1:=z7a (τ:=Y) (L:=[1]) Rd.sl (Store.sub_refl _)
 have hby:(byL [1]).toArray = #[1]:=rfl
 rw [hby] at l1
 have eqq:pv (.eqs false) [.str ⟨#[1]⟩,.str ⟨#[1]⟩]=some (.bool true):=by simp [pv,pEqs]
 simp only [Y1,Y2,Y4,Y6,g1,g11,zj,l1,eqq,↓vcPre,↓z0,↓reduceIte,vcPost,vcStd,Nat.reduceEqDiff,reduceCtorEq,Nat.reduceAdd,Nat.reduceLeDiff,Int.reduceLT,Int.reduceLE,↓u_setN]
 exact ⟨fun _=>Store.sub_trans sT (Store.sub_trans sU sUY),fun h=>absurd rfl h⟩
end Go.Am
namespace Go.Am
open Go.Proofs Go.Sort
theorem z8a (u v:Up):(u=v)↔(u.w=v.w∧u.has=v.has∧u.a=v.a∧u.n=v.n):=by
 constructor
 ·rintro rfl;exact ⟨rfl,rfl,rfl,rfl⟩
 ·rintro ⟨a,b,c,d⟩;cases u;cases v;simp_all
instance:DecidableEq Up:=fun u v=>decidable_of_iff _ (z8a u v).symm
theorem c10 (u v:Up) (hu:u.a.ok) (hv:v.a.ok) (lu:u.w.length≤1000000∧u.n.length≤1000000) (lv:v.w.length≤1000000∧v.n.length≤1000000):Pur Tryz.prog 10 [.agg u.c,.agg v.c] (.bool (decide (u=v))):=by
 refine zh Tst.F10 (by simp [Tst.F10,Fn.mkX]) fun σ => ?_
 simp only [Tst.F10,Fn.mkX,Tst.b10]
 have f0:∀ x:Up,List.take 1 x.c=[.sl 2 (x.w.map pxC)]:=fun _=>rfl
 have f1:∀ x:Up,List.take 1 (List.drop 1 x.c)=[.bool x.has]:=fun _=>rfl
 have f2:∀ x:Up,List.take 9 (List.drop 2 x.c)=x.a.c:=fun _=>rfl
 have f11:∀ x:Up,List.take 1 (List.drop 11 x.c)=[.sl 2 (x.n.map pxC)]:=fun _=>rfl
 simp only [zj,↓vcPre,↓z0,↓reduceIte,vcPost,vcStd,Nat.reduceEqDiff,reduceCtorEq,Nat.reduceAdd,Nat.reduceLeDiff,Int.reduceLT,Int.reduceLE,↓u_setN]
 refine AllocQ.i0 fun p hp => ?_
 simp only [zj,↓vcPre,↓z0,↓reduceIte,vcPost,vcStd,Nat.reduceEqDiff,reduceCtorEq,Nat.reduceAdd,Nat.reduceLeDiff,Int.reduceLT,Int.reduceLE,↓u_setN]
 refine AllocQ.i1 fun q hqp hpq hq => ?_
 have hT:=zk (o := .box u.c) (p := .box v.c) hp hq hqp
 have Tq:((σ.set p (.box u.c)).set q (.box v.c)) q=some (.box v.c):=Store.set_same _ _ _
 have Tp:((σ.set p (.box u.c)).set q (.box v.c)) p=some (.box u.c):=by rw [Store.set_ne _ _ hpq];exact Store.set_same _ _ _
 generalize (σ.set p (.box u.c)).set q (.box v.c)=T at hT Tp Tq ⊢
 simp only [Tp,Tq,f0,zj,↓vcPre,↓z0,↓reduceIte,vcPost,vcStd,Nat.reduceEqDiff,reduceCtorEq,Nat.reduceAdd,Nat.reduceLeDiff,Int.reduceLT,Int.reduceLE,↓u_setN]
 refine (z6b (σ:=T) (l:=u.w) (m:=v.w) Rd.sl Rd.sl lu.1 lv.1).Q ?_
 rintro r s ⟨rfl,rfl⟩
 simp only [Tp,Tq,f1,f2,f11,zj,z4q,↓vcPre,↓z0,↓reduceIte,vcPost,vcStd,Nat.reduceEqDiff,reduceCtorEq,Nat.reduceAdd,Nat.reduceLeDiff,Int.reduceLT,Int.reduceLE,↓u_setN]
 have no:¬ u=v→false=decide (u=v)∧σ.sub s:=fun h=>⟨by rw [decide_eq_false h],hT⟩
 refine ⟨fun g1=>⟨fun g2=>(c36 _ _ hu hv).Q ?_,fun g2=>no (by rintro rfl;exact g2 rfl)⟩,fun g1=>no (by rintro rfl;exact g1 rfl)⟩
 simp only [Tp,Tq,f1,f2,f11,zj,↓vcPre,↓z0,↓reduceIte,vcPost,vcStd,Nat.reduceEqDiff,reduceCtorEq,Nat.reduceAdd,Nat.reduceLeDiff,Int.reduceLT,Int.reduceLE,↓u_setN]
 refine ⟨fun g3 => ?_,fun g3=>no (by rintro rfl;exact g3 rfl)⟩
 refine (z6b (σ:=s) (l:=u.n) (m:=v.n) Rd.sl Rd.sl lu.2 lv.2).Q ?_
 rintro r s ⟨rfl,rfl⟩
 simp only [↓vcPre,↓z0,↓reduceIte,vcPost,vcStd,Nat.reduceEqDiff,reduceCtorEq,Nat.reduceAdd,Nat.reduceLeDiff,Int.reduceLT,Int.reduceLE,↓u_setN]
 refine ⟨?_,hT⟩
 rw [decide_eq_decide,z8a]
 simp_all
end Go.Am
namespace Go.Am
open Go.Proofs Go.Sort
theorem z8m {B g a r:List Int} (h:cutU B=some (g,a,r)):g.length≤B.length∧a.length≤B.length∧r.length≤B.length∧(∀ x ∈ g,x ∈ B)∧(∀ x ∈ a,x ∈ B)∧(∀ x ∈ r,x ∈ B):=by
 match B with
 | []=>cases h
 | [x]=>cases h
 | h0::l0::t =>
   simp only [cutU] at h
   split at h
   ·cases h
   ·split at h
    ·rename_i h2 l2 r2 e
     split at h
     ·cases h
     ·simp only [Option.some.injEq,Prod.mk.injEq] at h
      obtain ⟨rfl,rfl,rfl⟩:=h
      have hm:∀ x ∈ r2,x ∈ t:=fun x hx=>List.mem_of_mem_drop (i:=(h0*256+l0).toNat) (by rw [e];simp [hx])
      have hl:=congrArg List.length e
      simp only [List.length_drop,List.length_cons] at hl
      refine ⟨?_,?_,?_,fun x hx => ?_,fun x hx => ?_,fun x hx => ?_⟩
      ·simp only [List.length_take,List.length_cons];omega
      ·simp only [List.length_take,List.length_cons];omega
      ·simp only [List.length_drop,List.length_cons];omega
      ·simp [List.mem_of_mem_take hx]
      ·simp [hm x (List.mem_of_mem_take hx)]
      ·simp [hm x (List.mem_of_mem_drop hx)]
    ·cases h
theorem z71:∀ (n:Nat) (B:List Int),B.length≤n→∀ l,dN B=some l→l.length≤B.length:=by
 intro n
 induction n with
 | zero =>
   intro B hB l h
   have:B=[]:=List.eq_nil_of_length_eq_zero (by omega)
   subst this
   rw [uh] at h;cases h;simp
 | succ n ih =>
   intro B hB l h
   match B,hB,h with
   | [],_,h=>rw [uh] at h;cases h;simp
   | x::r,hB,h =>
     rw [vd] at h
     split at h
     ·cases h
     ·split at h
      ·cases h
      ·cases hd:dN (r.drop (szN x)) with
       | none=>rw [hd] at h;cases h
       | some m =>
         rw [hd] at h
         simp only [Option.map_some,Option.some.injEq] at h
         subst h
         simp only [List.length_cons] at hB ⊢
         have:=ih _ (by rw [List.length_drop];omega) m hd
         rw [List.length_drop] at this
         omega
theorem z72 (inner:Bool) {B:List Int} (hu:U8s B) (hB:B.length≤1000000) {a:At} {ty:List Int} (h:decA inner B = .ok (a,ty)):a.ok:=by
 unfold decA at h
 cases hd:decL inner B.length B zeroAt [] [] with
 | error n=>rw [hd] at h;cases h
 | ok x =>
   obtain ⟨a',ty'⟩:=x
   rw [hd] at h
   have:=z02 inner _ _ _ _ _ _ _ hd hu hB yg
   simp only [Except.ok.injEq,Prod.mk.injEq] at h
   rw [←h.1]
   exact vr this.1
theorem z7f (inner:Bool) {B:List Int} (hu:U8s B) (hB:B.length≤1000000):∃ (A:Up) (p q:Int) (M:List Int),A.a.ok∧A.w.length≤1000000∧A.n.length≤1000000∧outU (decU inner B) = .tup [.agg A.c,.agg [.int .i64 p,.int .i64 q,.sl 1 (M.map cB)]]:=by
 cases h:decU inner B with
 | error n=>exact ⟨zeroUp,3,n.1,n.2,yg,by simp [zeroUp],by simp [zeroUp],rfl⟩
 | ok u =>
   refine ⟨u,0,0,[],?_⟩
   unfold decU at h
   cases hc:cutU B with
   | none=>rw [hc] at h;cases h
   | some x =>
     obtain ⟨g,a,r⟩:=x
     obtain ⟨k1,k2,k3,m1,m2,m3⟩:=z8m hc
     rw [hc] at h
     simp only at h
     cases hw:dN g with
     | none=>rw [hw] at h;cases h
     | some w =>
       rw [hw] at h
       simp only at h
       cases ha:decA inner a with
       | error n=>rw [ha] at h;cases h
       | ok x =>
         obtain ⟨a',ty⟩:=x
         have hok:=z72 inner (fun x hx=>hu x (m2 x hx)) (by omega) ha
         rw [ha] at h
         simp only at h
         cases hr:dN r with
         | none=>rw [hr] at h;cases h
         | some nl =>
           rw [hr] at h
           simp only at h
           have lw:=z71 _ _ (Nat.le_refl _) _ hw
           have ln:=z71 _ _ (Nat.le_refl _) _ hr
           split at h
           ·cases h
            exact ⟨yg,by simp only;omega,by simp,rfl⟩
           ·split at h
            ·cases h
             exact ⟨hok,by simp only;omega,by simp only;omega,rfl⟩
            ·cases h
end Go.Am
namespace Go.Am
open Go.Proofs Go.Sort
def zAt (a:At):Bool:=decide (a.org=0∧a.path.length=0∧a.nxt=0∧a.hm=false∧a.med=0∧a.hp=false∧a.prf=0∧a.atm=false∧a.cms.length=0)
def rightU (u:Up):Bool:=(u.w.all fun p=>rightF p.1 p.2) && ((u.n.all fun p=>rightF p.1 p.2) && (decide (u.has=decide (0<u.n.length)) && (if u.has then decide (atRight u.a) else zAt u.a)))
end Go.Am
namespace Go.Am
open Go.Proofs Go.Sort
theorem z2v {l:List (Int×Int)} {j:Nat} (hj:j<l.length) (h:(l.take j).all (fun p=>rightF p.1 p.2)=true) (h2:rightF l[j].1 l[j].2=true):(l.take (j+1)).all (fun p=>rightF p.1 p.2)=true:=by
 rw [List.take_succ_eq_append_getElem hj,List.all_append,h]
 simp [h2]
theorem za8 {l:List (Int×Int)} {j:Nat} (hj:j<l.length) (h2:rightF l[j].1 l[j].2=false):l.all (fun p=>rightF p.1 p.2)=false:=by
 rw [List.all_eq_false]
 exact ⟨l[j],List.getElem_mem hj,by simp [h2]⟩
end Go.Am
namespace Go.Am
open Go.Proofs Go.Sort
def joinU (W A N:List Int):List Int:=u16 W.length++W++(u16 A.length++A)++N
end Go.Am
namespace Go.Am
open Go.Proofs Go.Sort
def aOf (u:Up):List Int:=if u.has then encA u.a else []
def encU9 (u:Up):List Int×Int:=if rightU u then if 4077<4+(encN u.w).length+(aOf u).length+(encN u.n).length then ([],3) else (joinU (encN u.w) (aOf u) (encN u.n),0) else ([],12)
theorem qe {u:Up} (h:rightU u=true):Rights u.w∧Rights u.n:=by
 unfold rightU at h
 rw [Bool.and_eq_true,Bool.and_eq_true,List.all_eq_true,List.all_eq_true] at h
 exact ⟨fun p hp=>h.1 p hp,fun p hp=>h.2.1 p hp⟩
end Go.Am
namespace Go.Am
open Go.Proofs Go.Sort
theorem xm (x:Raw9):(right9U x).a.ok∧((right9U x).has=true→encOk (right9U x).a∧(encA (right9U x).a).length≤1000):=by
 obtain ⟨h1,h2⟩:=zd2 x.a
 have h3:=z67 (shortA x.a)
 show (A9 x).ok∧(decide (N9 x≠[])=true→encOk (A9 x)∧(encA (A9 x)).length≤1000)
 unfold A9
 by_cases e:N9 x=[]
 ·simp [e,yg]
 ·have hok:(rightK (shortA x.a)).ok:=⟨by omega,fun s hs=>by have:=h2.2.1 s hs;show s.ls.length≤_;omega,by omega⟩
  simp [e,h1,h3.2,hok]
theorem z12 (x:Raw9):U8s (encU9 (right9U x)).1∧(encU9 (right9U x)).1.length≤10000:=by
 obtain ⟨_,ha⟩:=xm x
 unfold encU9
 split
 ·rename_i hr
  obtain ⟨r1,r2⟩:=qe hr
  split
  ·exact ⟨fun y hy=>by simp at hy,by simp⟩
  ·rename_i hl
   refine ⟨?_,?_⟩
   ·have hA:U8s (aOf (right9U x)):=by
     unfold aOf;split
     ·exact z4y _
     ·exact fun y hy=>by simp at hy
    exact (((z1m _).append (z03 r1)).append ((z1m _).append hA)).append (z03 r2)
   ·simp only [joinU,u16,List.length_append,List.length_cons,List.length_nil];omega
 ·exact ⟨fun y hy=>by simp at hy,by simp⟩
end Go.Am
namespace Go.Am
open Go.Proofs Go.Sort
theorem c51 (p:Int×Int) (h:rightF p.1 p.2=true):Pur Tryz.prog 51 [.agg (pxC p)] (.int .i64 (1+(szN p.2:Int))):=by
 refine zh Tst.F51 (by simp [Tst.F51,Fn.mkX]) fun σ => ?_
 simp only [Tst.F51,Fn.mkX,Tst.b51,pxC]
 simp only [↓vcPre,↓z0,↓reduceIte,vcPost,vcStd,Nat.reduceEqDiff,reduceCtorEq,Nat.reduceAdd,Nat.reduceLeDiff,Int.reduceLT,Int.reduceLE,↓u_setN]
 refine AllocQ.i0 fun i hi => ?_
 simp only [↓vcPre,↓z0,↓reduceIte,vcPost,vcStd,Nat.reduceEqDiff,reduceCtorEq,Nat.reduceAdd,Nat.reduceLeDiff,Int.reduceLT,Int.reduceLE,↓u_setN]
 refine (c49 p.1 p.2).Q ?_
 rw [h]
 obtain ⟨g1,g2⟩:=ye h
 have w1:IntKind.i64.wrap (p.2+8)=p.2+8:=z7 (by unfold I64;omega)
 have w2:IntKind.i64.wrap (p.2+8 - 1)=p.2+7:=by rw [z7 (by unfold I64;omega)];omega
 have w3:IntKind.i64.wrap ((p.2+7).tdiv 8)=(szN p.2:Int):=by
  rw [Int.tdiv_eq_ediv_of_nonneg (by omega),z7 (by unfold I64;omega)]
  unfold szN;omega
 have:=wq g1 g2
 have w4:IntKind.i64.wrap (1+(szN p.2:Int))=1+(szN p.2:Int):=z7 (by unfold I64;omega)
 simp only [w1,w2,w3,w4,↓vcPre,↓z0,↓reduceIte,vcPost,vcStd,Nat.reduceEqDiff,reduceCtorEq,Nat.reduceAdd,Nat.reduceLeDiff,Int.reduceLT,Int.reduceLE,↓u_setN]
 exact ⟨by decide,Store.sub_set _ _ _ hi⟩
theorem z74 (l:List (Int×Int)) (k:Nat) (h:k<l.length):encN (l.take (k+1))=encN (l.take k)++pxB l[k]:=by
 unfold encN
 rw [List.take_add_one,List.getElem?_eq_getElem h,List.flatMap_append]
 simp only [Option.toList_some,List.flatMap_cons,List.flatMap_nil,List.append_nil]
theorem zet (a:Int) (j:Nat) (hj:j<4):(b4 a).take (j+1)=(b4 a).take j++[shrInt .u32 a (32 - 8*((j:Int)+1)) % 256]:=by
 have f1:a.fdiv 1=a:=by rw [Int.fdiv_eq_ediv_of_nonneg _ (by omega)];omega
 rcases (show j=0∨j=1∨j=2∨j=3 by omega) with rfl | rfl | rfl | rfl
 ·simp [b4,shrInt,IntKind.bits,z14]
 ·simp [b4,shrInt,IntKind.bits,z75]
 ·simp [b4,shrInt,IntKind.bits,z2w]
 ·simp [b4,shrInt,IntKind.bits,f1]
theorem zh0 (n:Int):IntKind.i64.wrap n % 256=n % 256:=by
 simp [IntKind.wrap,IntKind.bits,IntKind.signed]
 split <;> omega
set_option maxHeartbeats 1000000 in
theorem c20 (l:List (Int×Int)) (hl:l.length≤100000) (hr:Rights l):Pur Tryz.prog 20 [.sl 2 (l.map pxC)] (.tup [.sl 1 ((encN l).map cB),.int .i64 0]):=by
 intro σ
 refine zd Tst.F20 (by simp [Tst.F20,Fn.mkX]) ?_
 simp only [Tst.F20,Fn.mkX,Tst.b20]
 simp only [↓vcPre,↓z0,↓reduceIte,vcPost,vcStd,Nat.reduceEqDiff,reduceCtorEq,Nat.reduceAdd,Nat.reduceLeDiff,Int.reduceLT,Int.reduceLE,↓u_setN]
 refine (s22 σ).Q ?_
 rintro r s ⟨id,rfl,hW⟩
 simp only [↓vcPre,↓z0,↓reduceIte,vcPost,vcStd,Nat.reduceEqDiff,reduceCtorEq,Nat.reduceAdd,Nat.reduceLeDiff,Int.reduceLT,Int.reduceLE,↓u_setN]
 refine LoopQ.inv (S:=Nat×Store) (fun q=>[(4,.ptr id 0),(9,.sl 2 (l.map pxC)),(10,.int .i64 (l.length:Int)),(11,.int .i64 (q.1:Int))]) (fun q=>q.2) (fun q=>q.1≤l.length∧WI σ id (encN (l.take q.1)) q.2) (fun q=>l.length+1 - q.1) (0,s) rfl (Store.sub_refl _) ⟨by simp only;omega,by simpa [encN] using hW⟩ ?_
 rintro ⟨k,s⟩ ⟨hk,hW⟩
 simp only at hk hW
 simp only [↓vcPre,↓z0,↓reduceIte,vcPost,vcStd,Nat.reduceEqDiff,reduceCtorEq,Nat.reduceAdd,Nat.reduceLeDiff,Int.reduceLT,Int.reduceLE,↓u_setN]
 have hlen:=xl (l.take k) (fun p hp=>hr p (List.mem_of_mem_take hp))
 have hlk:(l.take k).length≤100000:=by rw [List.length_take];omega
 refine ⟨fun c1 => ?_,fun c1 => ?_⟩
 ·have ek:IntKind.i64.wrap ((k:Int)+1)=((k+1:Nat):Int):=by rw [z7 (by unfold I64;omega)];omega
  have hp:=hr _ (List.getElem_mem c1)
  obtain ⟨g1,g2⟩:=ye hp
  have hsz:=wq g1 g2
  refine ⟨c1,by simp [pxC],?_⟩
  refine AllocQ.i0 fun i hi => ?_
  simp only [pxC,Store.set_set,↓vcPre,↓z0,↓reduceIte,vcPost,vcStd,Nat.reduceEqDiff,reduceCtorEq,Nat.reduceAdd,Nat.reduceLeDiff,Int.reduceLT,Int.reduceLE,↓u_setN]
  have hT:=hW.with (b:=i) (o := .box [.int .u32 l[k].1,.int .i64 l[k].2]) hi
  have hτi:σ i=none:=zi hW.2.1 hi
  have hTi:(σ.set i (.box [.int .u32 l[k].1,.int .i64 l[k].2])) i=some (.box [.int .u32 l[k].1,.int .i64 l[k].2]):=Store.set_same _ _ _
  have hσT:Store.sub σ (σ.set i (.box [.int .u32 l[k].1,.int .i64 l[k].2])):=Store.sub_set _ _ _ hτi
  generalize σ.set i (.box [.int .u32 l[k].1,.int .i64 l[k].2])=σ' at hT hTi hσT
  generalize s.set i (.box [.int .u32 l[k].1,.int .i64 l[k].2])=T at hT ⊢
  refine (c49 _ _).Q ?_
  rw [hp]
  simp only [hT.2.1 _ _ hTi,↓vcPre,↓z0,↓reduceIte,vcPost,vcStd,Nat.reduceEqDiff,reduceCtorEq,Nat.reduceAdd,Nat.reduceLeDiff,Int.reduceLT,Int.reduceLE,↓u_setN]
  refine (s50 hT (by omega) _).Q ?_
  rintro r s1 ⟨rfl,h1⟩
  simp only [h1.2.1 _ _ hTi,↓vcPre,↓z0,↓reduceIte,vcPost,vcStd,Nat.reduceEqDiff,reduceCtorEq,Nat.reduceAdd,Nat.reduceLeDiff,Int.reduceLT,Int.reduceLE,↓u_setN]
  have hcs:Pur Tryz.prog 51 [.agg [.int .u32 l[k].1,.int .i64 l[k].2]] (.int .i64 (1+(szN l[k].2:Int))):=c51 l[k] hp
  refine hcs.Q ?_
  have ws:IntKind.i64.wrap (1+(szN l[k].2:Int) - 1)=(szN l[k].2:Int):=by rw [z7 (by unfold I64;omega)];omega
  simp only [ws,↓vcPre,↓z0,↓reduceIte,vcPost,vcStd,Nat.reduceEqDiff,reduceCtorEq,Nat.reduceAdd,Nat.reduceLeDiff,Int.reduceLT,Int.reduceLE,↓u_setN]
  have e0:beN 1 (IntKind.u64.wrap l[k].2)=[l[k].2]:=by rw [be1];congr 1;omega
  rw [e0] at h1
  refine LoopQ.inv (S:=Nat×Store) (fun q=>[(4,.ptr id 0),(6,.ptr i 0),(9,.sl 2 (l.map pxC)),(10,.int .i64 (l.length:Int)),(11,.int .i64 (k:Int)),(24,.int .i64 (szN l[k].2:Int)),(25,.int .i64 (q.1:Int))]) (fun q=>q.2) (fun q=>q.1≤szN l[k].2∧WI σ' id (encN (l.take k)++[l[k].2]++(b4 l[k].1).take q.1) q.2) (fun q=>szN l[k].2+1 - q.1) (0,s1) rfl (Store.sub_refl _) ⟨by simp only;omega,by simpa using h1⟩ ?_
  rintro ⟨j,s3⟩ ⟨hj,h3⟩
  simp only at hj h3
  simp only [↓vcPre,↓z0,↓reduceIte,vcPost,vcStd,Nat.reduceEqDiff,reduceCtorEq,Nat.reduceAdd,Nat.reduceLeDiff,Int.reduceLT,Int.reduceLE,↓u_setN]
  refine ⟨fun d1 => ?_,fun d1 => ?_⟩
  ·have ej:IntKind.i64.wrap ((j:Int)+1)=((j+1:Nat):Int):=by rw [z7 (by unfold I64;omega)];omega
   have em:IntKind.i64.wrap (8*((j+1:Nat):Int))=8*((j:Int)+1):=by rw [z7 (by unfold I64;omega)];omega
   have es:IntKind.i64.wrap (32 - 8*((j:Int)+1))=32 - 8*((j:Int)+1):=by rw [z7 (by unfold I64;omega)]
   simp only [h3.2.1 _ _ hTi,ej,em,es,↓vcPre,↓z0,↓reduceIte,vcPost,vcStd,Nat.reduceEqDiff,reduceCtorEq,Nat.reduceAdd,Nat.reduceLeDiff,Int.reduceLT,Int.reduceLE,↓u_setN]
   refine ⟨by omega,?_⟩
   refine (s50 h3 (by simp;omega) _).Q ?_
   rintro r s4 ⟨rfl,h4⟩
   simp only [↓vcPre,↓z0,↓reduceIte,vcPost,vcStd,Nat.reduceEqDiff,reduceCtorEq,Nat.reduceAdd,Nat.reduceLeDiff,Int.reduceLT,Int.reduceLE,↓u_setN]
   rw [ej]
   refine NextQ.to (j+1,s4) rfl (Store.sub_refl _) (by simp only;omega) ⟨by simp only;omega,?_⟩
   simp only
   rw [zet _ _ (by omega),←List.append_assoc]
   rw [be1,zh0] at h4
   exact h4
  ·have e:j=szN l[k].2:=by omega
   subst e
   rw [ek]
   refine NextQ.to (k+1,s3) rfl (Store.sub_refl _) (by simp only;omega) ⟨by simp only;omega,?_⟩
   simp only
   rw [z74 _ _ c1]
   simp only [pxB,List.append_assoc,List.cons_append,List.nil_append] at h3 ⊢
   exact h3.weak hσT
 ·have e:l.take k=l:=List.take_of_length_le (by omega)
  rw [e] at hW hlen
  refine (s26 hW (by omega)).Q ?_
  rintro r s' ⟨rfl,rfl⟩
  simp only [↓vcPre,↓z0,↓reduceIte,vcPost,vcStd,Nat.reduceEqDiff,reduceCtorEq,Nat.reduceAdd,Nat.reduceLeDiff,Int.reduceLT,Int.reduceLE,↓u_setN]
  exact EndQ.to _ _ rfl hW.2.1 ⟨rfl,rfl⟩
end Go.Am
namespace Go.Am
open Go.Proofs Go.Sort
theorem c74 (p:Int×Int):Pur Tryz.prog 74 [.agg (pxC p)] (.bool (!rightF p.1 p.2)):=by
 refine zh Tst.F74 (by simp [Tst.F74,Fn.mkX]) fun σ => ?_
 simp only [Tst.F74,Fn.mkX,Tst.b74,pxC]
 simp only [↓vcPre,↓z0,↓reduceIte,vcPost,vcStd,Nat.reduceEqDiff,reduceCtorEq,Nat.reduceAdd,Nat.reduceLeDiff,Int.reduceLT,Int.reduceLE,↓u_setN]
 refine AllocQ.i0 fun i hi => ?_
 simp only [↓vcPre,↓z0,↓reduceIte,vcPost,vcStd,Nat.reduceEqDiff,reduceCtorEq,Nat.reduceAdd,Nat.reduceLeDiff,Int.reduceLT,Int.reduceLE,↓u_setN]
 refine (c49 p.1 p.2).Q ?_
 simp only [↓vcPre,↓z0,↓reduceIte,vcPost,vcStd,Nat.reduceEqDiff,reduceCtorEq,Nat.reduceAdd,Nat.reduceLeDiff,Int.reduceLT,Int.reduceLE,↓u_setN]
 exact Store.sub_set _ _ _ hi
theorem s92 (l:List (Int×Int)) (hl:l.length≤1000000) (σ:Store):ACalls Tryz.prog 92 [.sl 2 (l.map pxC),.fn 74 []] σ (fun r s=>s=σ∧∃ k:Int,r = .int .i64 k∧decide (0≤k) = !(l.all fun p=>rightF p.1 p.2)):=by
 refine zd Tst.F92 (by simp [Tst.F92,Fn.mkX]) ?_
 simp only [Tst.F92,Fn.mkX,Tst.b92]
 simp only [↓vcPre,↓z0,↓reduceIte,vcPost,vcStd,Nat.reduceEqDiff,reduceCtorEq,Nat.reduceAdd,Nat.reduceLeDiff,Int.reduceLT,Int.reduceLE,↓u_setN]
 refine LoopQ.inv (S:=Nat) (fun k=>[(0,.sl 2 (l.map pxC)),(1,.fn 74 []),(7,.int .i64 (l.length:Int)),(8,.int .i64 (k:Int))]) (fun _=>σ) (fun k=>k≤l.length∧(l.take k).all (fun p=>rightF p.1 p.2)=true) (fun k=>l.length+1 - k) 0 rfl (Store.sub_refl _) ⟨by omega,by simp⟩ ?_
 rintro k ⟨hk,hr⟩
 simp only [↓vcPre,↓z0,↓reduceIte,vcPost,vcStd,Nat.reduceEqDiff,reduceCtorEq,Nat.reduceAdd,Nat.reduceLeDiff,Int.reduceLT,Int.reduceLE,↓u_setN]
 refine ⟨fun c1 => ?_,fun c1 => ?_⟩
 ·have ek:IntKind.i64.wrap ((k:Int)+1)=((k+1:Nat):Int):=by rw [z7 (by unfold I64;omega)];omega
  refine ⟨c1,by simp [pxC],?_⟩
  have hc:=c74 l[k]
  simp only [pxC] at hc
  simp only [pxC,↓vcPre,↓z0,↓reduceIte,vcPost,vcStd,Nat.reduceEqDiff,reduceCtorEq,Nat.reduceAdd,Nat.reduceLeDiff,Int.reduceLT,Int.reduceLE,↓u_setN]
  refine hc.Q ?_
  cases g:rightF l[k].1 l[k].2
  ·simp only [↓vcPre,↓z0,↓reduceIte,vcPost,vcStd,Nat.reduceEqDiff,reduceCtorEq,Nat.reduceAdd,Nat.reduceLeDiff,Int.reduceLT,Int.reduceLE,↓u_setN]
   refine EndQ.to _ _ rfl (Store.sub_refl _) ⟨rfl,_,rfl,?_⟩
   rw [za8 c1 g];simp
  ·simp only [↓vcPre,↓z0,↓reduceIte,vcPost,vcStd,Nat.reduceEqDiff,reduceCtorEq,Nat.reduceAdd,Nat.reduceLeDiff,Int.reduceLT,Int.reduceLE,↓u_setN]
   rw [ek]
   exact NextQ.to (k+1) rfl (Store.sub_refl _) (by omega) ⟨by omega,z2v c1 hr g⟩
 ·have e:l.take k=l:=List.take_of_length_le (by omega)
  rw [e] at hr
  exact EndQ.to _ _ rfl (Store.sub_refl _) ⟨rfl,_,rfl,by rw [hr];rfl⟩
theorem c73 (l:List (Int×Int)) (hl:l.length≤1000000):Pur Tryz.prog 73 [.sl 2 (l.map pxC),.fn 74 []] (.bool (!(l.all fun p=>rightF p.1 p.2))):=by
 refine zh Tst.F73 (by simp [Tst.F73,Fn.mkX]) fun σ => ?_
 simp only [Tst.F73,Fn.mkX,Tst.b73]
 simp only [↓vcPre,↓z0,↓reduceIte,vcPost,vcStd,Nat.reduceEqDiff,reduceCtorEq,Nat.reduceAdd,Nat.reduceLeDiff,Int.reduceLT,Int.reduceLE,↓u_setN]
 refine (s92 l hl σ).Q ?_
 rintro r s ⟨rfl,k,rfl,hk⟩
 simp only [↓vcPre,↓z0,↓reduceIte,vcPost,vcStd,Nat.reduceEqDiff,reduceCtorEq,Nat.reduceAdd,Nat.reduceLeDiff,Int.reduceLT,Int.reduceLE,↓u_setN]
 rw [hk]
theorem c46 (l:List (Int×Int)) (hl:l.length≤1000000):Pur Tryz.prog 46 [.sl 2 (l.map pxC)] (.bool (l.all fun p=>rightF p.1 p.2)):=by
 refine zh Tst.F46 (by simp [Tst.F46,Fn.mkX]) fun σ => ?_
 simp only [Tst.F46,Fn.mkX,Tst.b46]
 simp only [↓vcPre,↓z0,↓reduceIte,vcPost,vcStd,Nat.reduceEqDiff,reduceCtorEq,Nat.reduceAdd,Nat.reduceLeDiff,Int.reduceLT,Int.reduceLE,↓u_setN]
 refine (c73 l hl).Q ?_
 simp only [↓vcPre,↓z0,↓reduceIte,vcPost,vcStd,Nat.reduceEqDiff,reduceCtorEq,Nat.reduceAdd,Nat.reduceLeDiff,Int.reduceLT,Int.reduceLE,↓u_setN]
theorem zck (a:At):(decide (canonA a=canonA zeroAt) && (decide (a.med=0) && decide (a.prf=0)))=zAt a:=by
 unfold zAt
 rw [Bool.eq_iff_iff]
 simp only [Bool.and_eq_true,decide_eq_true_eq]
 have e:canonA zeroAt=⟨0,[],0,false,0,false,0,false,canonC []⟩:=rfl
 rw [e]
 constructor
 ·rintro ⟨h,hm,hp⟩
  simp only [canonA,At.mk.injEq] at h
  obtain ⟨h1,h2,h3,h4,h5,h6,h7,h8,h9⟩:=h
  have h10:a.cms=[]:=by
   cases hc:a.cms with
   | nil=>rfl
   | cons x t =>
     have:x ∈ canonC a.cms:=canonC_mem.2 (by rw [hc];simp)
     rw [h9,canonC_mem] at this;cases this
  exact ⟨h1,by rw [h2];rfl,h3,h4,hm,h6,hp,h8,by rw [h10];rfl⟩
 ·rintro ⟨h1,h2,h3,h4,h5,h6,h7,h8,h9⟩
  refine ⟨?_,h5,h7⟩
  simp only [canonA,At.mk.injEq]
  exact ⟨h1,List.length_eq_zero_iff.1 h2,h3,h4,by rw [h4];rfl,h6,by rw [h6];rfl,h8,by rw [List.length_eq_zero_iff.1 h9]⟩
set_option maxHeartbeats 1000000 in
theorem c19 (u:Up) (hu:u.a.ok) (lw:u.w.length≤1000000) (ln:u.n.length≤1000000):Pur Tryz.prog 19 [.agg u.c] (.bool (rightU u)):=by
 refine zh Tst.F19 (by simp [Tst.F19,Fn.mkX]) fun σ => ?_
 simp only [Tst.F19,Fn.mkX,Tst.b19,w7]
 have f0:List.take 1 u.c=[.sl 2 (u.w.map pxC)]:=rfl
 have f1:List.take 1 (List.drop 1 u.c)=[.bool u.has]:=rfl
 have f2:List.take 9 (List.drop 2 u.c)=u.a.c:=rfl
 have f11:List.take 1 (List.drop 11 u.c)=[.sl 2 (u.n.map pxC)]:=rfl
 have spZ:splice 0 u.a.c zC=some u.a.c:=rfl
 have m4:List.take 1 (List.drop 4 u.a.c)=[.int .u32 u.a.med]:=rfl
 have m6:List.take 1 (List.drop 6 u.a.c)=[.int .u32 u.a.prf]:=rfl
 have e9:u.a.c.length=9:=rfl
 simp only [zj,↓vcPre,↓z0,↓reduceIte,vcPost,vcStd,Nat.reduceEqDiff,reduceCtorEq,Nat.reduceAdd,Nat.reduceLeDiff,Int.reduceLT,Int.reduceLE,↓u_setN]
 refine AllocQ.i0 fun p hp => ?_
 have hP:=Store.sub_set σ p (.box u.c) hp
 have P1:(σ.set p (.box u.c)) p=some (.box u.c):=Store.set_same _ _ _
 generalize σ.set p (.box u.c)=P at hP P1 ⊢
 simp only [P1,f0,f1,f11,zj,↓vcPre,↓z0,↓reduceIte,vcPost,vcStd,Nat.reduceEqDiff,reduceCtorEq,Nat.reduceAdd,Nat.reduceLeDiff,Int.reduceLT,Int.reduceLE,↓u_setN]
 refine (c46 u.w lw).Q ?_
 unfold rightU
 cases hw:(u.w.all fun p=>rightF p.1 p.2)
 ·simp only [↓vcPre,↓z0,↓reduceIte,vcPost,vcStd,Nat.reduceEqDiff,reduceCtorEq,Nat.reduceAdd,Nat.reduceLeDiff,Int.reduceLT,Int.reduceLE,↓u_setN]
  exact ⟨rfl,hP⟩
 simp only [P1,f0,f1,f11,zj,↓vcPre,↓z0,↓reduceIte,vcPost,vcStd,Nat.reduceEqDiff,reduceCtorEq,Nat.reduceAdd,Nat.reduceLeDiff,Int.reduceLT,Int.reduceLE,↓u_setN]
 refine (c46 u.n ln).Q ?_
 cases hn:(u.n.all fun p=>rightF p.1 p.2)
 ·simp only [↓vcPre,↓z0,↓reduceIte,vcPost,vcStd,Nat.reduceEqDiff,reduceCtorEq,Nat.reduceAdd,Nat.reduceLeDiff,Int.reduceLT,Int.reduceLE,↓u_setN]
  exact ⟨rfl,hP⟩
 simp only [P1,f0,f1,f11,zj,↓vcPre,↓z0,↓reduceIte,vcPost,vcStd,Nat.reduceEqDiff,reduceCtorEq,Nat.reduceAdd,Nat.reduceLeDiff,Int.reduceLT,Int.reduceLE,↓u_setN]
 have bff:(false != false)=false:=rfl
 have bft:(false != true)=true:=rfl
 have btf:(true != false)=true:=rfl
 have btt:(true != true)=false:=rfl
 cases hh:u.has
 ·by_cases hl:0<u.n.length
  ·have hl':(0:Int)<(u.n.length:Int):=by omega
   rw [decide_eq_true hl',decide_eq_true hl]
   simp only [bff,bft,btf,btt,↓vcPre,↓z0,↓reduceIte,vcPost,vcStd,Nat.reduceEqDiff,reduceCtorEq,Nat.reduceAdd,Nat.reduceLeDiff,Int.reduceLT,Int.reduceLE,↓u_setN]
   exact ⟨rfl,hP⟩
  ·have hl':¬ (0:Int)<(u.n.length:Int):=by omega
   rw [decide_eq_false hl',decide_eq_false hl]
   simp only [bff,bft,btf,btt,↓vcPre,↓z0,↓reduceIte,vcPost,vcStd,Nat.reduceEqDiff,reduceCtorEq,Nat.reduceAdd,Nat.reduceLeDiff,Int.reduceLT,Int.reduceLE,↓u_setN]
   refine AllocQ.i0 fun q hq => ?_
   simp only [P1,f2,spZ,zj,e9,w7,↓vcPre,↓z0,↓reduceIte,vcPost,vcStd,Nat.reduceEqDiff,reduceCtorEq,Nat.reduceAdd,Nat.reduceLeDiff,Int.reduceLT,Int.reduceLE,↓u_setN]
   have hQ:Store.sub σ ((P.set q (.box zC)).set q (.box u.a.c)):=z5 (Store.sub_trans hP (Store.sub_set P q _ hq)) (zi hP hq)
   have Q1:((P.set q (.box zC)).set q (.box u.a.c)) q=some (.box u.a.c):=Store.set_same _ _ _
   generalize (P.set q (.box zC)).set q (.box u.a.c)=Q at hQ Q1 ⊢
   have bz:pv (.build zC []) []=some (.agg zC):=rfl
   have t9:List.take 9 u.a.c=u.a.c:=rfl
   simp only [Q1,bz,t9,e9,Nat.le_refl,↓vcPre,↓z0,↓reduceIte,vcPost,vcStd,Nat.reduceEqDiff,reduceCtorEq,Nat.reduceAdd,Nat.reduceLeDiff,Int.reduceLT,Int.reduceLE,↓u_setN]
   have hs:=zd5 u.a zeroAt hu yg
   have hz:=zck u.a
   refine (zaa zC_imp (hs Q)).Q ?_
   rintro r s ⟨rfl,rfl⟩
   by_cases h1:canonA u.a=canonA zeroAt
   ·rw [decide_eq_true h1] at hz ⊢
    simp only [Q1,m4,m6,e9,↓vcPre,↓z0,↓reduceIte,vcPost,vcStd,Nat.reduceEqDiff,reduceCtorEq,Nat.reduceAdd,Nat.reduceLeDiff,Int.reduceLT,Int.reduceLE,↓u_setN]
    refine ⟨fun h2=>⟨?_,hQ⟩,fun h2=>⟨?_,hQ⟩⟩
    ·rw [decide_eq_true h2] at hz
     rw [←hz];simp
    ·rw [decide_eq_false h2] at hz
     rw [←hz];simp
   ·rw [decide_eq_false h1] at hz ⊢
    simp only [↓vcPre,↓z0,↓reduceIte,vcPost,vcStd,Nat.reduceEqDiff,reduceCtorEq,Nat.reduceAdd,Nat.reduceLeDiff,Int.reduceLT,Int.reduceLE,↓u_setN]
    refine ⟨?_,hQ⟩
    rw [←hz];simp
 ·by_cases hl:0<u.n.length
  ·have hl':(0:Int)<(u.n.length:Int):=by omega
   rw [decide_eq_true hl',decide_eq_true hl]
   simp only [P1,f2,zj,bff,bft,btf,btt,↓vcPre,↓z0,↓reduceIte,vcPost,vcStd,Nat.reduceEqDiff,reduceCtorEq,Nat.reduceAdd,Nat.reduceLeDiff,Int.reduceLT,Int.reduceLE,↓u_setN]
   refine (c47 u.a hu).Q ?_
   simp only [↓vcPre,↓z0,↓reduceIte,vcPost,vcStd,Nat.reduceEqDiff,reduceCtorEq,Nat.reduceAdd,Nat.reduceLeDiff,Int.reduceLT,Int.reduceLE,↓u_setN]
   exact ⟨rfl,hP⟩
  ·have hl':¬ (0:Int)<(u.n.length:Int):=by omega
   rw [decide_eq_false hl',decide_eq_false hl]
   simp only [bff,bft,btf,btt,↓vcPre,↓z0,↓reduceIte,vcPost,vcStd,Nat.reduceEqDiff,reduceCtorEq,Nat.reduceAdd,Nat.reduceLeDiff,Int.reduceLT,Int.reduceLE,↓u_setN]
   exact ⟨rfl,hP⟩
end Go.Am
