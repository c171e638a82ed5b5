/- A part of the proof: a logic for calls over plain values, and the functions that the law reaches, each walked once. -/
import Derived.Test.YtholebikgpnmlaaPA13
set_option linter.unusedVariables false
set_option linter.unusedSimpArgs false
set_option linter.unusedSectionVars false
namespace Go.Am
open Go.Proofs Go.Sort
theorem c67 (p:List Seg) (h:p.length≤1000000) (ho:∀ s ∈ p,s.ok) (as1:Int):Pur Try.prog 67 [.sl 2 (p.map Seg.c),.int .u32 as1,.int .i64 0] (.sl 2 (p.map Seg.c)):=by
 refine zn Tst.F67 (by simp [Tst.F67,Fn.mkX]) fun σ => ?_
 simp only [Tst.F67,Fn.mkX,Tst.b67]
 simp only [↓vcPre,↓z0,↓reduceIte,vcPost,vcStd,Nat.reduceEqDiff,reduceCtorEq,Nat.reduceAdd,Nat.reduceLeDiff,Int.reduceLT,Int.reduceLE,↓u_setN]
 refine (c72 p h ho).Q ?_
 simp only [↓vcPre,↓z0,↓reduceIte,vcPost,vcStd,Nat.reduceEqDiff,reduceCtorEq,Nat.reduceAdd,Nat.reduceLeDiff,Int.reduceLT,Int.reduceLE,↓u_setN]
 refine LoopQ.inv (S:=Unit) (fun _=>[(0,.sl 2 (p.map Seg.c)),(1,.int .u32 as1),(11,.int .i64 0),(12,.int .i64 0)]) (fun _=>σ) (fun _=>True) (fun _=>0) () rfl (Store.sub_refl _) trivial ?_
 rintro _ _
 simp only [↓vcPre,↓z0,↓reduceIte,vcPost,vcStd,Nat.reduceEqDiff,reduceCtorEq,Nat.reduceAdd,Nat.reduceLeDiff,Int.reduceLT,Int.reduceLE,↓u_setN]
section
variable {r:Rule} {σ:Store} {n rr:Env→Store→Prop} {xx:Nat→Env→Store→Prop} {p3 p5 p6:Nat} {as1:Int}
theorem z0g {T:Store} (b:At) (hb:b.ok) (z:List AV) (hz:z.length=9) (hp0:r.pp=0) (ha0:r.ac=0) (h35:¬ p3=p5) (h65:¬ p6=p5) (T3:T p3=some (.box r.c)) (T5:T p5=some (.box b.c)) (T6:T p6=some (.box z)) (hs:Store.sub σ T) (h5:σ p5=none) (h6:σ p6=none) (E:List (Nat×AV))
 (hr:∀ t',Store.sub σ t'→t' p6=some (.box (canonA (canonA b)).c)→rr [(6,.ptr p6 0)] t'):bwp Try.prog Ts18.t51_19 ((1,.int .u32 as1)::(3,.ptr p3 0)::(5,.ptr p5 0)::(6,.ptr p6 0)::E) T n rr xx:=by
 simp only [Ts18.t51_19]
 have e12:∀ y:Rule,y.c.length=12:=fun _=>rfl
 have e9:∀ y:At,y.c.length=9:=fun _=>rfl
 have t9:∀ y:At,List.take 9 y.c=y.c:=fun _=>rfl
 have b1:List.take 1 (List.drop 1 b.c)=[.sl 2 (b.path.map Seg.c)]:=rfl
 have r10:List.take 1 (List.drop 10 r.c)=[.int .i64 0]:=by rw [←hp0];rfl
 have r11:List.take 1 (List.drop 11 r.c)=[.int .u32 0]:=by rw [←ha0];rfl
 have s1:splice 1 [AV.sl 2 (b.path.map Seg.c)] b.c=some b.c:=rfl
 simp only [T3,T5,b1,r10,e12,e9,↓vcPre,↓z0,↓reduceIte,vcPost,vcStd,Nat.reduceEqDiff,reduceCtorEq,Nat.reduceAdd,Nat.reduceLeDiff,Int.reduceLT,Int.reduceLE,↓u_setN]
 refine (c67 b.path hb.1 hb.2.1 as1).Q ?_
 simp only [T3,T5,s1,e9,t9,↓vcPre,↓z0,↓reduceIte,vcPost,vcStd,Nat.reduceEqDiff,reduceCtorEq,Nat.reduceAdd,Nat.reduceLeDiff,Int.reduceLT,Int.reduceLE,↓u_setN]
 refine (c43 b hb).Q ?_
 have sA:∀ y w:At,splice 0 y.c w.c=some y.c:=fun _ _=>rfl
 have sZ:splice 0 (canonA (canonA b)).c z=some (canonA (canonA b)).c:=yq _ _ (by rw [hz];rfl)
 have s2:Store.sub σ ((T.set p5 (.box b.c)).set p5 (.box (canonA b).c)):=za (za hs h5) h5
 have U3:=(Store.set_ne (T.set p5 (.box b.c)) (.box (canonA b).c) h35).trans ((Store.set_ne T (.box b.c) h35).trans T3)
 have U6:=(Store.set_ne (T.set p5 (.box b.c)) (.box (canonA b).c) h65).trans ((Store.set_ne T (.box b.c) h65).trans T6)
 have U5:((T.set p5 (.box b.c)).set p5 (.box (canonA b).c)) p5=some (.box (canonA b).c):=Store.set_same _ _ _
 simp only [sA,e9,↓vcPre,↓z0,↓reduceIte,vcPost,vcStd,Nat.reduceEqDiff,reduceCtorEq,Nat.reduceAdd,Nat.reduceLeDiff,Int.reduceLT,Int.reduceLE,↓u_setN]
 generalize (T.set p5 (.box b.c)).set p5 (.box (canonA b).c)=U at s2 U3 U5 U6 ⊢
 simp only [U3,U5,e12,e9,t9,r11,↓vcPre,↓z0,↓reduceIte,vcPost,vcStd,Nat.reduceEqDiff,reduceCtorEq,Nat.reduceAdd,Nat.reduceLeDiff,Int.reduceLT,Int.reduceLE,↓u_setN]
 refine (c43 _ (v8 hb)).Q ?_
 simp only [U6,sZ,↓vcPre,↓z0,↓reduceIte,vcPost,vcStd,Nat.reduceEqDiff,reduceCtorEq,Nat.reduceAdd,Nat.reduceLeDiff,Int.reduceLT,Int.reduceLE,↓u_setN]
 exact ⟨rfl,hr _ (za s2 h6) (Store.set_same _ _ _)⟩
def medA (r:Rule) (b:At):At:=if r.sm then { b with hm:=true,med:=r.md } else b
def prfA (r:Rule) (b:At):At:=if r.sp then { b with hp:=true,prf:=r.pf } else b
theorem z0f {T:Store} (b:At) (hb:b.ok) (z:List AV) (hz:z.length=9) (hp0:r.pp=0) (ha0:r.ac=0) (h35:¬ p3=p5) (h65:¬ p6=p5) (T3:T p3=some (.box r.c)) (T5:T p5=some (.box b.c)) (T6:T p6=some (.box z)) (hs:Store.sub σ T) (h5:σ p5=none) (h6:σ p6=none) (E:List (Nat×AV))
 (hr:∀ t',Store.sub σ t'→t' p6=some (.box (canonA (canonA (medA r b))).c)→rr [(6,.ptr p6 0)] t'):bwp Try.prog Ts18.t51_13 ((1,.int .u32 as1)::(3,.ptr p3 0)::(5,.ptr p5 0)::(6,.ptr p6 0)::E) T n rr xx:=by
 simp only [Ts18.t51_13]
 have e12:∀ y:Rule,y.c.length=12:=fun _=>rfl
 have e9:∀ y:At,y.c.length=9:=fun _=>rfl
 have r8:List.take 1 (List.drop 8 r.c)=[.bool r.sm]:=rfl
 have r9:List.take 1 (List.drop 9 r.c)=[.int .u32 r.md]:=rfl
 have s3:splice 3 [.bool true] b.c=some ({ b with hm:=true }:At).c:=rfl
 have s4:splice 4 [.int .u32 r.md] ({ b with hm:=true }:At).c=some ({ b with hm:=true,med:=r.md }:At).c:=rfl
 have h53:¬ p5=p3:=fun e=>h35 e.symm
 unfold medA at hr
 simp only [T3,r8,e12,↓vcPre,↓z0,↓reduceIte,vcPost,vcStd,Nat.reduceEqDiff,reduceCtorEq,Nat.reduceAdd,Nat.reduceLeDiff,Int.reduceLT,Int.reduceLE,↓u_setN]
 cases h:r.sm
 ·rw [h] at hr
  simp only [Bool.false_eq_true,if_false] at hr
  simp only [↓vcPre,↓z0,↓reduceIte,vcPost,vcStd,Nat.reduceEqDiff,reduceCtorEq,Nat.reduceAdd,Nat.reduceLeDiff,Int.reduceLT,Int.reduceLE,↓u_setN]
  exact z0g b hb z hz hp0 ha0 h35 h65 T3 T5 T6 hs h5 h6 _ hr
 ·rw [h] at hr
  simp only [if_true] at hr
  simp only [T3,T5,r9,e12,e9,s3,s4,h35,h53,↓vcPre,↓z0,↓reduceIte,vcPost,vcStd,Nat.reduceEqDiff,reduceCtorEq,Nat.reduceAdd,Nat.reduceLeDiff,Int.reduceLT,Int.reduceLE,↓u_setN]
  have key:=fun (E:List (Nat×AV))=>z0g (as1:=as1) (n:=n) (rr:=rr) (xx:=xx) (T:=(T.set p5 (.box ({ b with hm:=true }:At).c)).set p5 (.box ({ b with hm:=true,med:=r.md }:At).c)) { b with hm:=true,med:=r.md } hb z hz hp0 ha0 h35 h65 (((Store.set_ne _ _ h35).trans (Store.set_ne _ _ h35)).trans T3) (Store.set_same _ _ _) (((Store.set_ne _ _ h65).trans (Store.set_ne _ _ h65)).trans T6) (za (za hs h5) h5) h5 h6 E hr
  exact ⟨key [],key []⟩
end
def doneA (r:Rule) (a:At):At:=canonA (canonA (medA r (prfA r a)))
set_option maxHeartbeats 1000000 in
theorem c51 (r:Rule) (as1:Int) (a:At) (ha:a.ok) (hp0:r.pp=0) (ha0:r.ac=0):Pur Try.prog 51 [.agg r.c,.int .u32 as1,.agg a.c] (.agg (doneA r a).c):=by
 refine zn Ts18.F51 (by simp [Ts18.F51,Fn.mkX]) fun σ => ?_
 simp only [Ts18.F51,Fn.mkX,Ts18.b51,wi]
 simp only [↓vcPre,↓z0,↓reduceIte,vcPost,vcStd,Nat.reduceEqDiff,reduceCtorEq,Nat.reduceAdd,Nat.reduceLeDiff,Int.reduceLT,Int.reduceLE,↓u_setN]
 refine AllocQ.i0 fun p3 h3 => ?_
 simp only [↓vcPre,↓z0,↓reduceIte,vcPost,vcStd,Nat.reduceEqDiff,reduceCtorEq,Nat.reduceAdd,Nat.reduceLeDiff,Int.reduceLT,Int.reduceLE,↓u_setN]
 refine AllocQ.i1 fun p5 h53 h35 h5 => ?_
 simp only [↓vcPre,↓z0,↓reduceIte,vcPost,vcStd,Nat.reduceEqDiff,reduceCtorEq,Nat.reduceAdd,Nat.reduceLeDiff,Int.reduceLT,Int.reduceLE,↓u_setN]
 refine AllocQ.i2 fun p6 h63 h36 h65 h56 h6 => ?_
 have sT:Store.sub σ (((σ.set p3 (.box r.c)).set p5 (.box a.c)).set p6 (.box zCells)):=za (zo h3 h5 h53) h6
 have T6:(((σ.set p3 (.box r.c)).set p5 (.box a.c)).set p6 (.box zCells)) p6=some (.box zCells):=Store.set_same _ _ _
 have T5:(((σ.set p3 (.box r.c)).set p5 (.box a.c)).set p6 (.box zCells)) p5=some (.box a.c):=by rw [Store.set_ne _ _ h56];exact Store.set_same _ _ _
 have T3:(((σ.set p3 (.box r.c)).set p5 (.box a.c)).set p6 (.box zCells)) p3=some (.box r.c):=by rw [Store.set_ne _ _ h36,Store.set_ne _ _ h35];exact Store.set_same _ _ _
 have e12:∀ y:Rule,y.c.length=12:=fun _=>rfl
 have e9:∀ y:At,y.c.length=9:=fun _=>rfl
 have t9:∀ y:At,List.take 9 y.c=y.c:=fun _=>rfl
 have r6:List.take 1 (List.drop 6 r.c)=[.bool r.sp]:=rfl
 have r7:List.take 1 (List.drop 7 r.c)=[.int .u32 r.pf]:=rfl
 have s5:splice 5 [.bool true] a.c=some ({ a with hp:=true }:At).c:=rfl
 have s6:splice 6 [.int .u32 r.pf] ({ a with hp:=true }:At).c=some ({ a with hp:=true,prf:=r.pf }:At).c:=rfl
 have fin:∀ t',Store.sub σ t'→t' p6=some (.box (doneA r a).c)→(fun (e:Env) (τ:Store)=>((e.get 6).bind fun p=>Option.map AV.agg (rd τ 9 p))=some (AV.agg (doneA r a).c)∧Store.sub σ τ) [(6,.ptr p6 0)] t':=fun t' h1 h2=>by
  refine ⟨?_,h1⟩
  have hr:rd t' 9 (.ptr p6 0)=some (doneA r a).c:=by simp only [rd,h2];rfl
  simp [Env.get,hr]
 simp only [↓vcPre,↓z0,↓reduceIte,vcPost,vcStd,Nat.reduceEqDiff,reduceCtorEq,Nat.reduceAdd,Nat.reduceLeDiff,Int.reduceLT,Int.reduceLE,↓u_setN]
 generalize ((σ.set p3 (.box r.c)).set p5 (.box a.c)).set p6 (.box zCells)=T at sT T3 T5 T6 ⊢
 simp only [T3,r6,e12,↓vcPre,↓z0,↓reduceIte,vcPost,vcStd,Nat.reduceEqDiff,reduceCtorEq,Nat.reduceAdd,Nat.reduceLeDiff,Int.reduceLT,Int.reduceLE,↓u_setN]
 have hd:doneA r a=canonA (canonA (medA r (prfA r a))):=rfl
 unfold prfA at hd
 cases h:r.sp
 ·rw [h] at hd
  simp only [Bool.false_eq_true,if_false] at hd
  simp only [↓vcPre,↓z0,↓reduceIte,vcPost,vcStd,Nat.reduceEqDiff,reduceCtorEq,Nat.reduceAdd,Nat.reduceLeDiff,Int.reduceLT,Int.reduceLE,↓u_setN]
  refine z0f a ha zCells rfl hp0 ha0 h35 h65 T3 T5 T6 sT h5 h6 _ ?_
  rw [←hd]
  exact fin
 ·rw [h] at hd
  simp only [if_true] at hd
  simp only [T3,T5,r7,e12,e9,s5,s6,h35,h53,↓vcPre,↓z0,↓reduceIte,vcPost,vcStd,Nat.reduceEqDiff,reduceCtorEq,Nat.reduceAdd,Nat.reduceLeDiff,Int.reduceLT,Int.reduceLE,↓u_setN]
  rw [hd] at fin
  have key:=fun (n rr:Env→Store→Prop) (xx:Nat→Env→Store→Prop) (E:List (Nat×AV))=>z0f (as1:=as1) (n:=n) (rr:=rr) (xx:=xx) (T:=(T.set p5 (.box ({ a with hp:=true }:At).c)).set p5 (.box ({ a with hp:=true,prf:=r.pf }:At).c)) { a with hp:=true,prf:=r.pf } ha zCells rfl hp0 ha0 h35 h65 (((Store.set_ne _ _ h35).trans (Store.set_ne _ _ h35)).trans T3) (Store.set_same _ _ _) (((Store.set_ne _ _ h65).trans (Store.set_ne _ _ h65)).trans T6) (za (za sT h5) h5) h5 h6 E
  rw [hd]
  exact ⟨key _ _ _ [] fin,key _ _ _ [] fin⟩
theorem s26 {σ:Store} (q:Int×Int) (as1:Int) (a:At) (ha:a.ok):ACalls Try.prog 26 [.nils,.int .u32 as1,.agg [.int .u32 q.1,.int .i64 q.2],.agg a.c] σ (fun r s=>s=σ∧r = .tup [.agg (canonA a).c,.bool true]):=by
 refine zq Tst.F26 (by simp [Tst.F26,Fn.mkX]) ?_
 simp only [Tst.F26,Fn.mkX,Tst.b26]
 simp only [↓vcPre,↓z0,↓reduceIte,vcPost,vcStd,Nat.reduceEqDiff,reduceCtorEq,Nat.reduceAdd,Nat.reduceLeDiff,Int.reduceLT,Int.reduceLE,↓u_setN]
 refine AllocQ.i0 fun p6 h6 => ?_
 simp only [↓vcPre,↓z0,↓reduceIte,vcPost,vcStd,Nat.reduceEqDiff,reduceCtorEq,Nat.reduceAdd,Nat.reduceLeDiff,Int.reduceLT,Int.reduceLE,↓u_setN]
 refine AllocQ.i1 fun p7 h76 h67 h7 => ?_
 simp only [↓vcPre,↓z0,↓reduceIte,vcPost,vcStd,Nat.reduceEqDiff,reduceCtorEq,Nat.reduceAdd,Nat.reduceLeDiff,Int.reduceLT,Int.reduceLE,↓u_setN]
 refine AllocQ.i2 fun p8 h86 h68 h87 h78 h8 => ?_
 simp only [↓vcPre,↓z0,↓reduceIte,vcPost,vcStd,Nat.reduceEqDiff,reduceCtorEq,Nat.reduceAdd,Nat.reduceLeDiff,Int.reduceLT,Int.reduceLE,↓u_setN]
 have sT:Store.sub σ (((σ.set p6 (.box [.int .u32 q.1,.int .i64 q.2])).set p7 (.box a.c)).set p8 (.box zCells)):=za (zo h6 h7 h76) h8
 have T8:(((σ.set p6 (.box [.int .u32 q.1,.int .i64 q.2])).set p7 (.box a.c)).set p8 (.box zCells)) p8=some (.box zCells):=Store.set_same _ _ _
 have T7:(((σ.set p6 (.box [.int .u32 q.1,.int .i64 q.2])).set p7 (.box a.c)).set p8 (.box zCells)) p7=some (.box a.c):=by rw [Store.set_ne _ _ h78];exact Store.set_same _ _ _
 simp only [wi]
 generalize ((σ.set p6 (.box [.int .u32 q.1,.int .i64 q.2])).set p7 (.box a.c)).set p8 (.box zCells)=T at sT T8 T7 ⊢
 have e9:∀ y:At,y.c.length=9:=fun _=>rfl
 have t9:∀ y:At,List.take 9 y.c=y.c:=fun _=>rfl
 refine LoopQ.inv (S:=Unit) (fun _=>[(1,.int .u32 as1),(6,.ptr p6 0),(7,.ptr p7 0),(8,.ptr p8 0),(12,.nils),(13,.int .i64 0),(14,.int .i64 0)]) (fun _=>T) (fun _=>True) (fun _=>0) () rfl (Store.sub_refl _) trivial ?_
 rintro _ _
 have hz:∀ y:At,splice 0 y.c zCells=some y.c:=fun _=>rfl
 simp only [T7,e9,t9,↓vcPre,↓z0,↓reduceIte,vcPost,vcStd,Nat.reduceEqDiff,reduceCtorEq,Nat.reduceAdd,Nat.reduceLeDiff,Int.reduceLT,Int.reduceLE,↓u_setN]
 refine (c43 a ha).Q ?_
 simp only [T8,e9,t9,hz,↓vcPre,↓z0,↓reduceIte,vcPost,vcStd,Nat.reduceEqDiff,reduceCtorEq,Nat.reduceAdd,Nat.reduceLeDiff,Int.reduceLT,Int.reduceLE,↓u_setN]
 refine EndQ.to σ (.tup [.agg (canonA a).c,.bool true]) ?_ (za sT h8) ⟨rfl,rfl⟩
 show Env.res [(8,AV.ptr p8 0),(9,.bool true)] _ [RS.c 8 9 true,RS.t 9]=_
 simp only [Store.set_same,e9,t9,Nat.le_refl,↓vcPre,↓z0,↓reduceIte,vcPost,vcStd,Nat.reduceEqDiff,reduceCtorEq,Nat.reduceAdd,Nat.reduceLeDiff,Int.reduceLT,Int.reduceLE,↓u_setN]
set_option maxHeartbeats 1000000 in
theorem z7h {σ:Store} (r:Rule) (q:Int×Int) (as1:Int) (a:At) (ha:a.ok) (hp0:r.pp=0) (ha0:r.ac=0) (hm:matchF r q a=true) {g:Nat} (hg:σ g=some (.arr 12 [r.c])) :
 ACalls Try.prog 26 [.os g 12 0 1,.int .u32 as1,.agg [.int .u32 q.1,.int .i64 q.2],.agg a.c] σ (fun v s=>s=σ∧v=(if r.rj then .tup [.agg zCells,.bool false] else .tup [.agg (doneA r a).c,.bool true])):=by
 refine zq Tst.F26 (by simp [Tst.F26,Fn.mkX]) ?_
 simp only [Tst.F26,Fn.mkX,Tst.b26,wi]
 simp only [↓vcPre,↓z0,↓reduceIte,vcPost,vcStd,Nat.reduceEqDiff,reduceCtorEq,Nat.reduceAdd,Nat.reduceLeDiff,Int.reduceLT,Int.reduceLE,↓u_setN]
 refine AllocQ.i0 fun p6 h6 => ?_
 simp only [↓vcPre,↓z0,↓reduceIte,vcPost,vcStd,Nat.reduceEqDiff,reduceCtorEq,Nat.reduceAdd,Nat.reduceLeDiff,Int.reduceLT,Int.reduceLE,↓u_setN]
 refine AllocQ.i1 fun p7 h76 h67 h7 => ?_
 simp only [↓vcPre,↓z0,↓reduceIte,vcPost,vcStd,Nat.reduceEqDiff,reduceCtorEq,Nat.reduceAdd,Nat.reduceLeDiff,Int.reduceLT,Int.reduceLE,↓u_setN]
 refine AllocQ.i2 fun p8 h86 h68 h87 h78 h8 => ?_
 simp only [↓vcPre,↓z0,↓reduceIte,vcPost,vcStd,Nat.reduceEqDiff,reduceCtorEq,Nat.reduceAdd,Nat.reduceLeDiff,Int.reduceLT,Int.reduceLE,↓u_setN]
 have sT:Store.sub σ (((σ.set p6 (.box [.int .u32 q.1,.int .i64 q.2])).set p7 (.box a.c)).set p8 (.box zCells)):=za (zo h6 h7 h76) h8
 have T8:(((σ.set p6 (.box [.int .u32 q.1,.int .i64 q.2])).set p7 (.box a.c)).set p8 (.box zCells)) p8=some (.box zCells):=Store.set_same _ _ _
 have T7:(((σ.set p6 (.box [.int .u32 q.1,.int .i64 q.2])).set p7 (.box a.c)).set p8 (.box zCells)) p7=some (.box a.c):=by rw [Store.set_ne _ _ h78];exact Store.set_same _ _ _
 have T6:(((σ.set p6 (.box [.int .u32 q.1,.int .i64 q.2])).set p7 (.box a.c)).set p8 (.box zCells)) p6=some (.box [.int .u32 q.1,.int .i64 q.2]):=by rw [Store.set_ne _ _ h68,Store.set_ne _ _ h67];exact Store.set_same _ _ _
 generalize ((σ.set p6 (.box [.int .u32 q.1,.int .i64 q.2])).set p7 (.box a.c)).set p8 (.box zCells)=T at sT T8 T7 T6 ⊢
 have Tg:=sT _ _ hg
 have e12:∀ y:Rule,y.c.length=12:=fun _=>rfl
 have t12:∀ y:Rule,List.take 12 y.c=y.c:=fun _=>rfl
 have e9:∀ y:At,y.c.length=9:=fun _=>rfl
 have t9:∀ y:At,List.take 9 y.c=y.c:=fun _=>rfl
 have hz:∀ y:At,splice 0 y.c zCells=some y.c:=fun _=>rfl
 have hzz:splice 0 zCells zCells=some zCells:=rfl
 have z12:splice 0 r.c [AV.int .u32 0,.int .i64 0,.int .i64 0,.int .i64 0,.int .u32 0,.bool false,.bool false,.int .u32 0,.bool false,.int .u32 0,.int .i64 0,.int .u32 0]=some r.c:=rfl
 have g5:List.take 1 (List.drop 5 r.c)=[.bool r.rj]:=rfl
 refine LoopQ.inv (S:=Unit) (fun _=>[(1,.int .u32 as1),(6,.ptr p6 0),(7,.ptr p7 0),(8,.ptr p8 0),(12,.os g 12 0 1),(13,.int .i64 1),(14,.int .i64 0)]) (fun _=>T) (fun _=>True) (fun _=>0) () rfl (Store.sub_refl _) trivial ?_
 rintro _ _
 simp only [Tg,↓vcPre,↓z0,↓reduceIte,vcPost,vcStd,Nat.reduceEqDiff,reduceCtorEq,Nat.reduceAdd,Nat.reduceLeDiff,Int.reduceLT,Int.reduceLE,↓u_setN]
 refine ⟨by decide,by decide,Nat.le_refl _,AllocQ.i0 fun p11 h11 => ?_⟩
 have eg:∀ h,[r.c][0+Int.toNat 0]'h=r.c:=fun _=>rfl
 simp only [eg,e12,t12,z12,↓vcPre,↓z0,↓reduceIte,vcPost,vcStd,Nat.reduceEqDiff,reduceCtorEq,Nat.reduceAdd,Nat.reduceLeDiff,Int.reduceLT,Int.reduceLE,↓u_setN]
 have n6:¬ p6=p11:=fun e=>by subst e;rw [T6] at h11;cases h11
 have n7:¬ p7=p11:=fun e=>by subst e;rw [T7] at h11;cases h11
 have n8:¬ p8=p11:=fun e=>by subst e;rw [T8] at h11;cases h11
 have hσ11:σ p11=none:=zl sT h11
 have sU:Store.sub σ ((T.set p11 (.box [AV.int .u32 0,.int .i64 0,.int .i64 0,.int .i64 0,.int .u32 0,.bool false,.bool false,.int .u32 0,.bool false,.int .u32 0,.int .i64 0,.int .u32 0])).set p11 (.box r.c)):=za (za sT hσ11) hσ11
 have U11:((T.set p11 (.box [AV.int .u32 0,.int .i64 0,.int .i64 0,.int .i64 0,.int .u32 0,.bool false,.bool false,.int .u32 0,.bool false,.int .u32 0,.int .i64 0,.int .u32 0])).set p11 (.box r.c)) p11=some (.box r.c):=Store.set_same _ _ _
 have U6:((T.set p11 (.box [AV.int .u32 0,.int .i64 0,.int .i64 0,.int .i64 0,.int .u32 0,.bool false,.bool false,.int .u32 0,.bool false,.int .u32 0,.int .i64 0,.int .u32 0])).set p11 (.box r.c)) p6=some (.box [.int .u32 q.1,.int .i64 q.2]):=by rw [Store.set_ne _ _ n6,Store.set_ne _ _ n6];exact T6
 have U7:((T.set p11 (.box [AV.int .u32 0,.int .i64 0,.int .i64 0,.int .i64 0,.int .u32 0,.bool false,.bool false,.int .u32 0,.bool false,.int .u32 0,.int .i64 0,.int .u32 0])).set p11 (.box r.c)) p7=some (.box a.c):=by rw [Store.set_ne _ _ n7,Store.set_ne _ _ n7];exact T7
 have U8:((T.set p11 (.box [AV.int .u32 0,.int .i64 0,.int .i64 0,.int .i64 0,.int .u32 0,.bool false,.bool false,.int .u32 0,.bool false,.int .u32 0,.int .i64 0,.int .u32 0])).set p11 (.box r.c)) p8=some (.box zCells):=by rw [Store.set_ne _ _ n8,Store.set_ne _ _ n8];exact T8
 generalize (T.set p11 (.box [AV.int .u32 0,.int .i64 0,.int .i64 0,.int .i64 0,.int .u32 0,.bool false,.bool false,.int .u32 0,.bool false,.int .u32 0,.int .i64 0,.int .u32 0])).set p11 (.box r.c)=U at sU U11 U6 U7 U8 ⊢
 have hM:=c27 r q a ha.2.2
 rw [hm] at hM
 simp only [U6,U7,e9,t9,↓vcPre,↓z0,↓reduceIte,vcPost,vcStd,Nat.reduceEqDiff,reduceCtorEq,Nat.reduceAdd,Nat.reduceLeDiff,Int.reduceLT,Int.reduceLE,↓u_setN]
 refine hM.Q ?_
 simp only [U11,g5,e12,t12,↓vcPre,↓z0,↓reduceIte,vcPost,vcStd,Nat.reduceEqDiff,reduceCtorEq,Nat.reduceAdd,Nat.reduceLeDiff,Int.reduceLT,Int.reduceLE,↓u_setN]
 cases hj:r.rj
 ·simp only [U7,U11,e9,t9,e12,t12,↓vcPre,↓z0,↓reduceIte,vcPost,vcStd,Nat.reduceEqDiff,reduceCtorEq,Nat.reduceAdd,Nat.reduceLeDiff,Int.reduceLT,Int.reduceLE,↓u_setN]
  refine (c51 r as1 a ha hp0 ha0).Q ?_
  simp only [U8,e9,t9,hz,↓vcPre,↓z0,↓reduceIte,vcPost,vcStd,Nat.reduceEqDiff,reduceCtorEq,Nat.reduceAdd,Nat.reduceLeDiff,Int.reduceLT,Int.reduceLE,↓u_setN]
  refine EndQ.to σ (.tup [.agg (doneA r a).c,.bool true]) ?_ (za sU h8) ⟨rfl,rfl⟩
  show Env.res [(8,AV.ptr p8 0),(9,.bool true)] _ [RS.c 8 9 true,RS.t 9]=_
  simp only [Store.set_same,e9,t9,Nat.le_refl,↓vcPre,↓z0,↓reduceIte,vcPost,vcStd,Nat.reduceEqDiff,reduceCtorEq,Nat.reduceAdd,Nat.reduceLeDiff,Int.reduceLT,Int.reduceLE,↓u_setN]
 ·simp only [U8,hzz,↓vcPre,↓z0,↓reduceIte,vcPost,vcStd,Nat.reduceEqDiff,reduceCtorEq,Nat.reduceAdd,Nat.reduceLeDiff,Int.reduceLT,Int.reduceLE,↓u_setN]
  refine ⟨rfl,EndQ.to σ (.tup [.agg zCells,.bool false]) ?_ (za sU h8) ⟨rfl,rfl⟩⟩
  have z9:zCells.length=9:=rfl
  have y9:List.take 9 zCells=zCells:=rfl
  show Env.res [(8,AV.ptr p8 0),(9,.bool false)] _ [RS.c 8 9 true,RS.t 9]=_
  simp only [Store.set_same,z9,y9,Nat.le_refl,↓vcPre,↓z0,↓reduceIte,vcPost,vcStd,Nat.reduceEqDiff,reduceCtorEq,Nat.reduceAdd,Nat.reduceLeDiff,Int.reduceLT,Int.reduceLE,↓u_setN]
end Go.Am
namespace Go.Am
open Go.Proofs Go.Sort
def ruleS:Rule:=⟨0,0,0,32,0,false,true,200,false,0,0,0⟩
def ruleR:Rule:=⟨0,0,0,32,0,true,false,0,false,0,0,0⟩
theorem z2v (x:Int):bitInt .and .u32 x (maskF 0)=0:=by
 have h:BitVec.ofInt 32 (maskF 0)=0:=by decide+kernel
 have e:bitInt .and .u32 x (maskF 0)=IntKind.u32.wrap ((BitVec.ofInt 32 x &&& (BitVec.ofInt 32 (maskF 0))).toNat:Int):=rfl
 rw [e,h,show (BitVec.ofInt 32 x &&& 0)=0 by simp]
 decide
theorem v6 (r:Rule) (q:Int×Int) (a:At) (h1:r.ad=0) (h2:r.ln=0) (h3:r.fr=0) (h4:r.tl=32) (h5:r.cm=0) (hq:rightF q.1 q.2=true):matchF r q a=true:=by
 have hq':=hq
 unfold rightF at hq'
 simp only [Bool.and_eq_true,decide_eq_true_eq] at hq'
 have h0:rightF 0 0=true:=by decide+kernel
 unfold matchF coversF hasF
 rw [h1,h2,h3,h4,h5,hq]
 simp only [h0,z2v]
 simp [hq'.1.1,hq'.1.2]
def zN (x:Int):List AV:=[.int .i64 0,.nils,.int .u32 x,.bool false,.int .u32 0,.bool false,.int .u32 0,.bool false,.nils]
theorem z76 (x:Int) {σ:Store} {Q:AV→Store→Prop} (h:Q (.agg ({ zeroAt with nxt:=x }:At).c) σ):Weak (.agg (zN x)) σ Q:=by
 refine Weak.agg (WeakL.nil 1 2 rfl (WeakL.nil 8 1 rfl (WeakL.pure ⟨?_,h⟩)))
 intro c hc
 simp [zN] at hc
 rcases hc with rfl | rfl | rfl | rfl | rfl | rfl | rfl | rfl | rfl <;> rfl
theorem z7i {σ:Store} (r:Rule) (x:Int) (hr:matchF r (0,0) { zeroAt with nxt:=x }=true) (hp0:r.pp=0) (ha0:r.ac=0) {g:Nat} (hg:σ g=some (.arr 12 [r.c])) :
 ACalls Try.prog 26 [.os g 12 0 1,.int .u32 1,.agg [.int .u32 0,.int .i64 0],.agg (zN x)] σ (fun v s=>s=σ∧v=(if r.rj then .tup [.agg zCells,.bool false] else .tup [.agg (doneA r { zeroAt with nxt:=x }).c,.bool true])):=by
 have hz:({ zeroAt with nxt:=x }:At).ok:=⟨by simp [zeroAt],by simp [zeroAt],by simp [zeroAt]⟩
 have h:=z7h r (0,0) 1 { zeroAt with nxt:=x } hz hp0 ha0 hr hg
 exact ACalls.weakArgs h.1 (WeakL.pos 3 rfl (z76 x (WeakL.pure h)))
theorem c28:Pur Try.prog 28 [] (.bool true):=by
 refine zn Tst.F28 (by simp [Tst.F28,Fn.mkX]) fun σ => ?_
 simp only [Tst.F28,Fn.mkX,Tst.b28]
 simp only [↓vcPre,↓z0,↓reduceIte,vcPost,vcStd,Nat.reduceEqDiff,reduceCtorEq,Nat.reduceAdd,Nat.reduceLeDiff,Int.reduceLT,Int.reduceLE,↓u_setN]
 refine AllocQ.i0 fun g hg => ?_
 simp only [↓vcPre,↓z0,↓reduceIte,vcPost,vcStd,Nat.reduceEqDiff,reduceCtorEq,Nat.reduceAdd,Nat.reduceLeDiff,Int.reduceLT,Int.reduceLE,↓u_setN]
 have c1:=z7i (σ:=σ.set g (.arr 12 [ruleS.c])) ruleS 0 (v6 _ _ _ rfl rfl rfl rfl rfl (by decide+kernel)) rfl rfl (g:=g) (Store.set_same _ _ _)
 refine c1.Q ?_
 rintro v s ⟨rfl,rfl⟩
 have X5:List.take 1 (List.drop 5 (doneA ruleS { zeroAt with nxt:=0 }).c)=[.bool true]:=rfl
 have X6:List.take 1 (List.drop 6 (doneA ruleS { zeroAt with nxt:=0 }).c)=[.int .u32 200]:=rfl
 have e9:∀ y:At,y.c.length=9:=fun _=>rfl
 have t9:∀ y:At,List.take 9 y.c=y.c:=fun _=>rfl
 have hz:∀ y:At,splice 0 y.c (zN 0)=some y.c:=fun _=>rfl
 have hzz:splice 0 zCells (zN 0)=some zCells:=rfl
 rw [show ruleS.rj=false from rfl]
 simp only [Bool.false_eq_true,if_false]
 generalize hX:doneA ruleS { zeroAt with nxt:=0 }=X at X5 X6 ⊢
 have fold0:[AV.int .i64 0,.nils,.int .u32 0,.bool false,.int .u32 0,.bool false,.int .u32 0,.bool false,.nils]=zN 0:=rfl
 have hs0:=Store.sub_set σ g (.arr 12 [ruleS.c]) hg
 generalize σ.set g (.arr 12 [ruleS.c])=U at hs0 ⊢
 simp only [↓vcPre,↓z0,↓reduceIte,vcPost,vcStd,Nat.reduceEqDiff,reduceCtorEq,Nat.reduceAdd,Nat.reduceLeDiff,Int.reduceLT,Int.reduceLE,↓u_setN]
 refine AllocQ.i0 fun p1 hp1 => ?_
 simp only [fold0]
 simp only [hz,e9,↓vcPre,↓z0,↓reduceIte,vcPost,vcStd,Nat.reduceEqDiff,reduceCtorEq,Nat.reduceAdd,Nat.reduceLeDiff,Int.reduceLT,Int.reduceLE,↓u_setN]
 have sV:Store.sub U ((U.set p1 (.box (zN 0))).set p1 (.box X.c)):=za (Store.sub_set U p1 _ hp1) hp1
 have V1:((U.set p1 (.box (zN 0))).set p1 (.box X.c)) p1=some (.box X.c):=Store.set_same _ _ _
 generalize (U.set p1 (.box (zN 0))).set p1 (.box X.c)=V at sV V1 ⊢
 refine AllocQ.i0 fun g2 hg2 => ?_
 simp only [↓vcPre,↓z0,↓reduceIte,vcPost,vcStd,Nat.reduceEqDiff,reduceCtorEq,Nat.reduceAdd,Nat.reduceLeDiff,Int.reduceLT,Int.reduceLE,↓u_setN]
 have n1:¬ p1=g2:=fun e=>by subst e;rw [V1] at hg2;cases hg2
 have c2:=z7i (σ:=V.set g2 (.arr 12 [ruleR.c])) ruleR 7 (v6 _ _ _ rfl rfl rfl rfl rfl (by decide+kernel)) rfl rfl (g:=g2) (Store.set_same _ _ _)
 have s7:splice 2 [AV.int .u32 7] (zN 0)=some (zN 7):=rfl
 rw [s7,yd]
 refine c2.Q ?_
 rintro v s ⟨rfl,rfl⟩
 rw [show ruleR.rj=true from rfl]
 simp only [if_true]
 have sW:Store.sub V (V.set g2 (.arr 12 [ruleR.c])):=Store.sub_set V g2 _ hg2
 have W1:=sW _ _ V1
 generalize V.set g2 (.arr 12 [ruleR.c])=W at sW W1 ⊢
 simp only [↓vcPre,↓z0,↓reduceIte,vcPost,vcStd,Nat.reduceEqDiff,reduceCtorEq,Nat.reduceAdd,Nat.reduceLeDiff,Int.reduceLT,Int.reduceLE,↓u_setN]
 refine AllocQ.i0 fun p3 hp3 => ?_
 have n3:¬ p1=p3:=fun e=>by subst e;rw [W1] at hp3;cases hp3
 simp only [fold0]
 have z9:zCells.length=9:=rfl
 have z2:List.take 1 (List.drop 2 zCells)=[.int .u32 0]:=rfl
 simp only [hzz,z9,z2,W1,X5,X6,e9,n3,↓vcPre,↓z0,↓reduceIte,vcPost,vcStd,Nat.reduceEqDiff,reduceCtorEq,Nat.reduceAdd,Nat.reduceLeDiff,Int.reduceLT,Int.reduceLE,↓u_setN]
 have sA:Store.sub σ W:=Store.sub_trans hs0 (Store.sub_trans sV sW)
 have h3:=zl sA hp3
 exact za (za sA h3) h3
end Go.Am
namespace Go.Am
open Go.Proofs Go.Sort
theorem z0o (x:BitVec 32):IntKind.u32.wrap (x.toNat:Int)=(x.toNat:Int):=by
 have:=x.isLt
 show ((x.toNat:Int) % 4294967296)=_
 omega
theorem z24 (a n:Int):rightF (ofF a n).1 (ofF a n).2=true:=by
 simp only [ofF,z02]
 have hand:bitInt .and .u32 a (maskF n)=IntKind.u32.wrap ((BitVec.ofInt 32 a &&& (BitVec.ofInt 32 (maskF n))).toNat:Int):=rfl
 rw [z0o] at hand
 unfold rightF
 simp only [Bool.and_eq_true,decide_eq_true_eq]
 refine ⟨by omega,?_⟩
 rw [z02,show ∀ a n:Int,bitInt .andNot .u32 a (maskF n)=IntKind.u32.wrap ((BitVec.ofInt 32 a &&& ~~~(BitVec.ofInt 32 (maskF n))).toNat:Int) from fun _ _=>rfl,hand,show ∀ x:BitVec 32,BitVec.ofInt 32 (x.toNat:Int)=x from fun x=>by simp,z0o]
 have:(BitVec.ofInt 32 a &&& BitVec.ofInt 32 (maskF n)) &&& ~~~(BitVec.ofInt 32 (maskF n))=0#32:=by
  rw [BitVec.and_assoc,BitVec.and_not_self]
  simp
 rw [this];rfl
theorem z4e (a:At) (x:Int):(tameA a x).ok:=by
 refine ⟨by simp [tameA],?_,?_⟩
 ·intro s hs
  simp only [tameA,List.mem_singleton] at hs
  subst hs
  simp only [Seg.ok,List.length_cons,List.length_map,List.length_take]
  omega
 ·have h:=qj (a.cms.take 2)
  rw [List.length_take] at h
  simp only [tameA]
  omega
def zR:List AV:=[AV.int .u32 0,.int .i64 0,.int .i64 0,.int .i64 0,.int .u32 0,.bool false,.bool false,.int .u32 0,.bool false,.int .u32 0,.int .i64 0,.int .u32 0]
theorem z75:[AV.int .u32 0,.int .i64 0,.int .i64 0,.int .i64 0,.int .u32 0,.bool false,.bool false,.int .u32 0,.bool false,.int .u32 0,.int .i64 0,.int .u32 0]=zR:=rfl
def ruleZ:Rule:=⟨0,0,0,32,0,false,false,0,false,0,0,0⟩
theorem z0v (r:Rule) (q:Int×Int) (t:At) (hq:rightF q.1 q.2=true) :
 matchF r q t=(matchF { r with cm:=0 } q t && (decide (r.cm=0) || decide (r.cm ∈ t.cms)))∧matchF { r with cm:=0 } q t=(matchF { r with cm:=0,fr:=0,tl:=32 } q t && (decide (r.fr≤q.2) && decide (q.2≤r.tl))):=by
 have hq':=hq
 unfold rightF at hq'
 simp only [Bool.and_eq_true,decide_eq_true_eq] at hq'
 constructor
 ·simp [matchF,Bool.and_assoc]
 ·simp [matchF,hq'.1.1,hq'.1.2]
set_option maxHeartbeats 1000000 in
theorem z5h (r:Rule) (n size:Int) (a:At) (hr:r.ok) (hn:I64 size) (ho:I64 a.org):Pur Try.prog 5 [.agg r.c,.int .u32 n,.int .i64 size,.agg a.c] (.bool true):=by
 refine zn Tst.F5 (by simp [Tst.F5,Fn.mkX]) fun σ => ?_
 simp only [Tst.F5,Fn.mkX,Tst.b5,wi,z75]
 have e12:∀ y:Rule,y.c.length=12:=fun _=>rfl
 have t12:∀ y:Rule,List.take 12 y.c=y.c:=fun _=>rfl
 have e9:∀ y:At,y.c.length=9:=fun _=>rfl
 have t9:∀ y:At,List.take 9 y.c=y.c:=fun _=>rfl
 simp only [↓vcPre,↓z0,↓reduceIte,vcPost,vcStd,Nat.reduceEqDiff,reduceCtorEq,Nat.reduceAdd,Nat.reduceLeDiff,Int.reduceLT,Int.reduceLE,↓u_setN]
 refine AllocQ.i0 fun p4 h4 => ?_
 simp only [↓vcPre,↓z0,↓reduceIte,vcPost,vcStd,Nat.reduceEqDiff,reduceCtorEq,Nat.reduceAdd,Nat.reduceLeDiff,Int.reduceLT,Int.reduceLE,↓u_setN]
 refine AllocQ.i1 fun p7 h74 h47 h7 => ?_
 simp only [↓vcPre,↓z0,↓reduceIte,vcPost,vcStd,Nat.reduceEqDiff,reduceCtorEq,Nat.reduceAdd,Nat.reduceLeDiff,Int.reduceLT,Int.reduceLE,↓u_setN]
 refine (c31 n size hn).Q ?_
 simp only [↓vcPre,↓z0,↓reduceIte,vcPost,vcStd,Nat.reduceEqDiff,reduceCtorEq,Nat.reduceAdd,Nat.reduceLeDiff,Int.reduceLT,Int.reduceLE,↓u_setN]
 obtain ⟨q,hq⟩:∃ q:Int×Int,q=ofF n (size % 33):=⟨_,rfl⟩
 have hqr:rightF q.1 q.2=true:=by rw [hq];exact z24 n (size % 33)
 rw [←hq]
 have sT:Store.sub σ ((σ.set p4 (.box r.c)).set p7 (.box a.c)):=zo h4 h7 h74
 have T7:((σ.set p4 (.box r.c)).set p7 (.box a.c)) p7=some (.box a.c):=Store.set_same _ _ _
 have T4:((σ.set p4 (.box r.c)).set p7 (.box a.c)) p4=some (.box r.c):=by rw [Store.set_ne _ _ h47];exact Store.set_same _ _ _
 generalize (σ.set p4 (.box r.c)).set p7 (.box a.c)=T at sT T7 T4 ⊢
 have splq:splice 0 [AV.int .u32 q.1,.int .i64 q.2] [AV.int .u32 0,.int .i64 0]=some [AV.int .u32 q.1,.int .i64 q.2]:=rfl
 refine AllocQ.i0 fun p9 hp9 => ?_
 have n49:¬ p4=p9:=fun e=>by subst e;rw [T4] at hp9;cases hp9
 have n79:¬ p7=p9:=fun e=>by subst e;rw [T7] at hp9;cases hp9
 have h9:σ p9=none:=zl sT hp9
 have sU:Store.sub σ ((T.set p9 (.box [AV.int .u32 0,.int .i64 0])).set p9 (.box [AV.int .u32 q.1,.int .i64 q.2])):=za (za sT h9) h9
 have U9:((T.set p9 (.box [AV.int .u32 0,.int .i64 0])).set p9 (.box [AV.int .u32 q.1,.int .i64 q.2])) p9=some (.box [AV.int .u32 q.1,.int .i64 q.2]):=Store.set_same _ _ _
 have U7:((T.set p9 (.box [AV.int .u32 0,.int .i64 0])).set p9 (.box [AV.int .u32 q.1,.int .i64 q.2])) p7=some (.box a.c):=by rw [Store.set_ne _ _ n79,Store.set_ne _ _ n79];exact T7
 have U4:((T.set p9 (.box [AV.int .u32 0,.int .i64 0])).set p9 (.box [AV.int .u32 q.1,.int .i64 q.2])) p4=some (.box r.c):=by rw [Store.set_ne _ _ n49,Store.set_ne _ _ n49];exact T4
 simp only [↓vcPre,↓z0,↓reduceIte,vcPost,vcStd,Nat.reduceEqDiff,reduceCtorEq,Nat.reduceAdd,Nat.reduceLeDiff,Int.reduceLT,Int.reduceLE,↓u_setN]
 generalize (T.set p9 (.box [AV.int .u32 0,.int .i64 0])).set p9 (.box [AV.int .u32 q.1,.int .i64 q.2])=U at sU U9 U7 U4 ⊢
 simp only [U7,e9,t9,↓vcPre,↓z0,↓reduceIte,vcPost,vcStd,Nat.reduceEqDiff,reduceCtorEq,Nat.reduceAdd,Nat.reduceLeDiff,Int.reduceLT,Int.reduceLE,↓u_setN]
 refine (c25 a ho 65001).Q ?_
 obtain ⟨t,ht⟩:∃ t,t=tameA a 65001:=⟨_,rfl⟩
 have tok:t.ok:=by rw [ht];exact z4e a 65001
 rw [←ht]
 clear ht
 simp only [↓vcPre,↓z0,↓reduceIte,vcPost,vcStd,Nat.reduceEqDiff,reduceCtorEq,Nat.reduceAdd,Nat.reduceLeDiff,Int.reduceLT,Int.reduceLE,↓u_setN]
 refine AllocQ.i0 fun p10 hp10 => ?_
 have hzt:splice 0 t.c zCells=some t.c:=rfl
 have n4x:¬ p4=p10:=fun e=>by subst e;rw [U4] at hp10;cases hp10
 have n9x:¬ p9=p10:=fun e=>by subst e;rw [U9] at hp10;cases hp10
 have h10:σ p10=none:=zl sU hp10
 have sV:Store.sub σ ((U.set p10 (.box zCells)).set p10 (.box t.c)):=za (za sU h10) h10
 have V10:((U.set p10 (.box zCells)).set p10 (.box t.c)) p10=some (.box t.c):=Store.set_same _ _ _
 have V9:((U.set p10 (.box zCells)).set p10 (.box t.c)) p9=some (.box [AV.int .u32 q.1,.int .i64 q.2]):=by rw [Store.set_ne _ _ n9x,Store.set_ne _ _ n9x];exact U9
 have V4:((U.set p10 (.box zCells)).set p10 (.box t.c)) p4=some (.box r.c):=by rw [Store.set_ne _ _ n4x,Store.set_ne _ _ n4x];exact U4
 simp only [hzt,e9,↓vcPre,↓z0,↓reduceIte,vcPost,vcStd,Nat.reduceEqDiff,reduceCtorEq,Nat.reduceAdd,Nat.reduceLeDiff,Int.reduceLT,Int.reduceLE,↓u_setN]
 generalize (U.set p10 (.box zCells)).set p10 (.box t.c)=V at sV V10 V9 V4 ⊢
 have spz:splice 3 [AV.int .i64 32] zR=some ruleZ.c:=rfl
 rw [spz,yd]
 refine AllocQ.i0 fun p11 hp11 => ?_
 have h11:σ p11=none:=zl sV hp11
 have n4y:¬ p4=p11:=fun e=>by subst e;rw [V4] at hp11;cases hp11
 have n9y:¬ p9=p11:=fun e=>by subst e;rw [V9] at hp11;cases hp11
 have nty:¬ p10=p11:=fun e=>by subst e;rw [V10] at hp11;cases hp11
 have sW:Store.sub σ ((V.set p11 (.box zR)).set p11 (.box ruleZ.c)):=za (za sV h11) h11
 have W11:((V.set p11 (.box zR)).set p11 (.box ruleZ.c)) p11=some (.box ruleZ.c):=Store.set_same _ _ _
 have W10:((V.set p11 (.box zR)).set p11 (.box ruleZ.c)) p10=some (.box t.c):=by rw [Store.set_ne _ _ nty,Store.set_ne _ _ nty];exact V10
 have W9:((V.set p11 (.box zR)).set p11 (.box ruleZ.c)) p9=some (.box [AV.int .u32 q.1,.int .i64 q.2]):=by rw [Store.set_ne _ _ n9y,Store.set_ne _ _ n9y];exact V9
 have W4:((V.set p11 (.box zR)).set p11 (.box ruleZ.c)) p4=some (.box r.c):=by rw [Store.set_ne _ _ n4y,Store.set_ne _ _ n4y];exact V4
 have zr9:zR.length=12:=rfl
 have spr:∀ y:Rule,splice 0 y.c zR=some y.c:=fun _=>rfl
 have sprr:∀ y z:Rule,splice 0 y.c z.c=some y.c:=fun _ _=>rfl
 simp only [spr,zr9,e12,↓vcPre,↓z0,↓reduceIte,vcPost,vcStd,Nat.reduceEqDiff,reduceCtorEq,Nat.reduceAdd,Nat.reduceLeDiff,Int.reduceLT,Int.reduceLE,↓u_setN]
 generalize (V.set p11 (.box zR)).set p11 (.box ruleZ.c)=W at sW W11 W10 W9 W4 ⊢
 simp only [W11,W10,W9,e12,t12,e9,t9,↓vcPre,↓z0,↓reduceIte,vcPost,vcStd,Nat.reduceEqDiff,reduceCtorEq,Nat.reduceAdd,Nat.reduceLeDiff,Int.reduceLT,Int.reduceLE,↓u_setN]
 have hM:=c27 ruleZ q t tok.2.2
 rw [v6 ruleZ q t rfl rfl rfl rfl rfl hqr] at hM
 refine hM.Q ?_
 simp only [W4,e12,t12,↓vcPre,↓z0,↓reduceIte,vcPost,vcStd,Nat.reduceEqDiff,reduceCtorEq,Nat.reduceAdd,Nat.reduceLeDiff,Int.reduceLT,Int.reduceLE,↓u_setN]
 refine AllocQ.i0 fun g hg => ?_
 simp only [↓vcPre,↓z0,↓reduceIte,vcPost,vcStd,Nat.reduceEqDiff,reduceCtorEq,Nat.reduceAdd,Nat.reduceLeDiff,Int.reduceLT,Int.reduceLE,↓u_setN]
 have ng4:¬ p4=g:=fun e=>by subst e;rw [W4] at hg;cases hg
 have ng9:¬ p9=g:=fun e=>by subst e;rw [W9] at hg;cases hg
 have ngt:¬ p10=g:=fun e=>by subst e;rw [W10] at hg;cases hg
 have hK:=s23 (σ:=W.set g (.arr 12 [r.c])) [r] (fun x hx=>by rw [List.mem_singleton] at hx;subst hx;exact hr) (by simp) (g:=g) (Store.set_same _ _ _)
 refine hK.Q ?_
 rintro v s ⟨rfl,rfl⟩
 obtain ⟨r',hr'⟩:∃ r',r'=ruleK r true:=⟨_,rfl⟩
 have hR:(rulesK [r]).map Rule.c=[r'.c]:=by rw [hr'];rfl
 rw [hR]
 clear hr'
 have sX:Store.sub σ (W.set g (.arr 12 [r.c])):=Store.sub_trans sW (Store.sub_set W g _ hg)
 have X10:=Store.sub_set W g (.arr 12 [r.c]) hg _ _ W10
 have X9:=Store.sub_set W g (.arr 12 [r.c]) hg _ _ W9
 have X4:=Store.sub_set W g (.arr 12 [r.c]) hg _ _ W4
 generalize W.set g (.arr 12 [r.c])=X at sX X10 X9 X4 ⊢
 have nt4:¬ p10=p4:=fun e=>n4x e.symm
 have n94:¬ p9=p4:=fun e=>n49 e.symm
 simp only [X4,e12,t12,sprr,↓vcPre,↓z0,↓reduceIte,vcPost,vcStd,Nat.reduceEqDiff,reduceCtorEq,Nat.reduceAdd,Nat.reduceLeDiff,Int.reduceLT,Int.reduceLE,↓u_setN]
 refine ⟨by decide,Nat.le_refl _,rfl,?_⟩
 have e0:∀ h,[r'.c][Int.toNat 0]'h=r'.c:=fun _=>rfl
 simp only [e0,t12,sprr,yd]
 have sY:Store.sub σ (X.set p4 (.box r'.c)):=za sX h4
 have Y4:(X.set p4 (.box r'.c)) p4=some (.box r'.c):=Store.set_same _ _ _
 have Y10:=(Store.set_ne X (.box r'.c) nt4).trans X10
 have Y9:=(Store.set_ne X (.box r'.c) n94).trans X9
 generalize X.set p4 (.box r'.c)=Y at sY Y4 Y10 Y9 ⊢
 simp only [Y4,Y10,Y9,e12,t12,e9,t9,↓vcPre,↓z0,↓reduceIte,vcPost,vcStd,Nat.reduceEqDiff,reduceCtorEq,Nat.reduceAdd,Nat.reduceLeDiff,Int.reduceLT,Int.reduceLE,↓u_setN]
 refine (c27 r' q t tok.2.2).Q ?_
 obtain ⟨m1,m2⟩:=z0v r' q t hqr
 obtain ⟨x,hx⟩:∃ x:Rule,x={ r' with cm:=0 }:=⟨_,rfl⟩
 obtain ⟨y,hy⟩:∃ y:Rule,y={ r' with cm:=0,fr:=0,tl:=32 }:=⟨_,rfl⟩
 rw [←hx,←hy] at m2
 rw [←hx] at m1
 have spx:splice 4 [AV.int .u32 0] r'.c=some x.c:=by rw [hx];rfl
 simp only [Y4,e12,t12,↓vcPre,↓z0,↓reduceIte,vcPost,vcStd,Nat.reduceEqDiff,reduceCtorEq,Nat.reduceAdd,Nat.reduceLeDiff,Int.reduceLT,Int.reduceLE,↓u_setN]
 refine AllocQ.i0 fun p13 hp13 => ?_
 have h13:σ p13=none:=zl sY hp13
 have n4a:¬ p4=p13:=fun e=>by subst e;rw [Y4] at hp13;cases hp13
 have n9a:¬ p9=p13:=fun e=>by subst e;rw [Y9] at hp13;cases hp13
 have nta:¬ p10=p13:=fun e=>by subst e;rw [Y10] at hp13;cases hp13
 simp only [spr,zr9,e12,spx,↓vcPre,↓z0,↓reduceIte,vcPost,vcStd,Nat.reduceEqDiff,reduceCtorEq,Nat.reduceAdd,Nat.reduceLeDiff,Int.reduceLT,Int.reduceLE,↓u_setN]
 have sZ:Store.sub σ (((Y.set p13 (.box zR)).set p13 (.box r'.c)).set p13 (.box x.c)):=za (za (za sY h13) h13) h13
 have Z13:(((Y.set p13 (.box zR)).set p13 (.box r'.c)).set p13 (.box x.c)) p13=some (.box x.c):=Store.set_same _ _ _
 have Z4:(((Y.set p13 (.box zR)).set p13 (.box r'.c)).set p13 (.box x.c)) p4=some (.box r'.c):=by rw [Store.set_ne _ _ n4a,Store.set_ne _ _ n4a,Store.set_ne _ _ n4a];exact Y4
 have Z9:(((Y.set p13 (.box zR)).set p13 (.box r'.c)).set p13 (.box x.c)) p9=some (.box [AV.int .u32 q.1,.int .i64 q.2]):=by rw [Store.set_ne _ _ n9a,Store.set_ne _ _ n9a,Store.set_ne _ _ n9a];exact Y9
 have Z10:(((Y.set p13 (.box zR)).set p13 (.box r'.c)).set p13 (.box x.c)) p10=some (.box t.c):=by rw [Store.set_ne _ _ nta,Store.set_ne _ _ nta,Store.set_ne _ _ nta];exact Y10
 generalize ((Y.set p13 (.box zR)).set p13 (.box r'.c)).set p13 (.box x.c)=Z at sZ Z13 Z4 Z9 Z10 ⊢
 refine AllocQ.i0 fun p14 hp14 => ?_
 have h14:σ p14=none:=zl sZ hp14
 have n4b:¬ p4=p14:=fun e=>by subst e;rw [Z4] at hp14;cases hp14
 have n9b:¬ p9=p14:=fun e=>by subst e;rw [Z9] at hp14;cases hp14
 have ntb:¬ p10=p14:=fun e=>by subst e;rw [Z10] at hp14;cases hp14
 have n13b:¬ p13=p14:=fun e=>by subst e;rw [Z13] at hp14;cases hp14
 have spy2:splice 2 [AV.int .i64 0] x.c=some ({ x with fr:=0 }:Rule).c:=rfl
 have spy3:splice 3 [AV.int .i64 32] ({ x with fr:=0 }:Rule).c=some y.c:=by rw [hx,hy];rfl
 have r4:List.take 1 (List.drop 4 r'.c)=[.int .u32 r'.cm]:=rfl
 have sA:Store.sub σ ((((Z.set p14 (.box zR)).set p14 (.box x.c)).set p14 (.box ({ x with fr:=0 }:Rule).c)).set p14 (.box y.c)):=za (za (za (za sZ h14) h14) h14) h14
 have A14:((((Z.set p14 (.box zR)).set p14 (.box x.c)).set p14 (.box ({ x with fr:=0 }:Rule).c)).set p14 (.box y.c)) p14=some (.box y.c):=Store.set_same _ _ _
 have A13:((((Z.set p14 (.box zR)).set p14 (.box x.c)).set p14 (.box ({ x with fr:=0 }:Rule).c)).set p14 (.box y.c)) p13=some (.box x.c):=by rw [Store.set_ne _ _ n13b,Store.set_ne _ _ n13b,Store.set_ne _ _ n13b,Store.set_ne _ _ n13b];exact Z13
 have A4:((((Z.set p14 (.box zR)).set p14 (.box x.c)).set p14 (.box ({ x with fr:=0 }:Rule).c)).set p14 (.box y.c)) p4=some (.box r'.c):=by rw [Store.set_ne _ _ n4b,Store.set_ne _ _ n4b,Store.set_ne _ _ n4b,Store.set_ne _ _ n4b];exact Z4
 have A9:((((Z.set p14 (.box zR)).set p14 (.box x.c)).set p14 (.box ({ x with fr:=0 }:Rule).c)).set p14 (.box y.c)) p9=some (.box [AV.int .u32 q.1,.int .i64 q.2]):=by rw [Store.set_ne _ _ n9b,Store.set_ne _ _ n9b,Store.set_ne _ _ n9b,Store.set_ne _ _ n9b];exact Z9
 have A10:((((Z.set p14 (.box zR)).set p14 (.box x.c)).set p14 (.box ({ x with fr:=0 }:Rule).c)).set p14 (.box y.c)) p10=some (.box t.c):=by rw [Store.set_ne _ _ ntb,Store.set_ne _ _ ntb,Store.set_ne _ _ ntb,Store.set_ne _ _ ntb];exact Z10
 simp only [spr,spy2,spy3,e12,t12,n4b,r4,Z4,↓vcPre,↓z0,↓reduceIte,vcPost,vcStd,Nat.reduceEqDiff,reduceCtorEq,Nat.reduceAdd,Nat.reduceLeDiff,Int.reduceLT,Int.reduceLE,↓u_setN]
 generalize (((Z.set p14 (.box zR)).set p14 (.box x.c)).set p14 (.box ({ x with fr:=0 }:Rule).c)).set p14 (.box y.c)=A at sA A14 A13 A4 A9 A10 ⊢
 have tcl:=tok.2.2
 have a8:List.take 1 (List.drop 8 t.c)=[.sl 1 (t.cms.map cU)]:=rfl
 generalize hmm:matchF r' q t=mm at m1 ⊢
 refine LoopQ.inv (S:=Nat×Bool) (fun w=>[(4,.ptr p4 0),(9,.ptr p9 0),(10,.ptr p10 0),(12,.bool mm),(13,.ptr p13 0),(14,.ptr p14 0),(15,.bool w.2),(16,.int .i64 (w.1:Int))]) (fun _=>A)
  (fun w=>w.1≤t.cms.length∧w.2=(decide (r'.cm=0) || decide (r'.cm ∈ t.cms.take w.1))) (fun w=>t.cms.length+1 - w.1) (0,decide (r'.cm=0)) rfl (Store.sub_refl _) ⟨by simp only;omega,by simp⟩ ?_
 rintro ⟨k,b⟩ ⟨hk,hb⟩
 simp only at hk hb
 simp only [A10,a8,e9,↓vcPre,↓z0,↓reduceIte,vcPost,vcStd,Nat.reduceEqDiff,reduceCtorEq,Nat.reduceAdd,Nat.reduceLeDiff,Int.reduceLT,Int.reduceLE,↓u_setN]
 refine ⟨fun c1 => ?_,fun c1 => ?_⟩
 ·have ek:IntKind.i64.wrap ((k:Int)+1)=((k+1:Nat):Int):=by rw [zj (by unfold I64;omega)];omega
  have hstep:(decide (r'.cm=0) || decide (r'.cm ∈ t.cms.take (k+1)))=(b || decide (t.cms[k]=r'.cm)):=by
   rw [hb,List.take_succ_eq_append_getElem c1]
   simp only [List.mem_append,List.mem_singleton,Bool.decide_or,Bool.or_assoc]
   congr 2
   simp only [eq_comm]
  cases b
  ·simp only [A10,A4,a8,e9,e12,r4,cU,ek,↓vcPre,↓z0,↓reduceIte,vcPost,vcStd,Nat.reduceEqDiff,reduceCtorEq,Nat.reduceAdd,Nat.reduceLeDiff,Int.reduceLT,Int.reduceLE,↓u_setN]
   exact ⟨c1,NextQ.to (k+1,decide (t.cms[k]=r'.cm)) rfl (Store.sub_refl _) (by simp only;omega) ⟨by simp only;omega,by simp only;rw [hstep];rfl⟩⟩
  ·simp only [ek,↓vcPre,↓z0,↓reduceIte,vcPost,vcStd,Nat.reduceEqDiff,reduceCtorEq,Nat.reduceAdd,Nat.reduceLeDiff,Int.reduceLT,Int.reduceLE,↓u_setN]
   exact NextQ.to (k+1,true) rfl (Store.sub_refl _) (by simp only;omega) ⟨by simp only;omega,by simp only;rw [hstep];rfl⟩
 ·have hh:k=t.cms.length:=by omega
  subst hh
  rw [List.take_length] at hb
  rw [←hb] at m1
  clear hb
  simp only [A13,A10,A9,e12,t12,e9,t9,↓vcPre,↓z0,↓reduceIte,vcPost,vcStd,Nat.reduceEqDiff,reduceCtorEq,Nat.reduceAdd,Nat.reduceLeDiff,Int.reduceLT,Int.reduceLE,↓u_setN]
  have hMx:=c27 x q t tcl
  have hMy:=c27 y q t tcl
  generalize matchF x q t=mx at m1 m2 hMx
  generalize matchF y q t=my at m2 hMy
  have r2:List.take 1 (List.drop 2 r'.c)=[.int .i64 r'.fr]:=rfl
  have r3:List.take 1 (List.drop 3 r'.c)=[.int .i64 r'.tl]:=rfl
  have q1:List.take 1 (List.drop 1 [AV.int .u32 q.1,.int .i64 q.2])=[.int .i64 q.2]:=rfl
  have eq1:(false != false)=false:=rfl
  have eq2:(true != true)=false:=rfl
  have eq3:(true != false)=true:=rfl
  have eq4:(false != true)=true:=rfl
  have hrc:=c13 t tok
  have hka:=c18 (canonA t) (canonA t) (v8 tok) (v8 tok)
  rw [decide_eq_true rfl] at hka
  have hzc:splice 0 (canonA t).c zCells=some (canonA t).c:=rfl
  by_cases g1:r'.fr≤q.2 <;> by_cases g2:q.2≤r'.tl <;> cases my <;> simp [g1,g2] at m2 <;> subst m2 <;> cases b <;> simp only [Bool.false_and,Bool.and_false,Bool.true_and] at m1 <;> subst m1
  all_goals
   refine hMx.Q ?_
   simp only [A14,A13,A10,A9,A4,e12,t12,e9,t9,eq1,eq2,↓vcPre,↓z0,↓reduceIte,vcPost,vcStd,Nat.reduceEqDiff,reduceCtorEq,Nat.reduceAdd,Nat.reduceLeDiff,Int.reduceLT,Int.reduceLE,↓u_setN]
   refine hMx.Q ?_
   simp only [↓vcPre,↓z0,↓reduceIte,vcPost,vcStd,Nat.reduceEqDiff,reduceCtorEq,Nat.reduceAdd,Nat.reduceLeDiff,Int.reduceLT,Int.reduceLE,↓u_setN]
   refine hMy.Q ?_
   simp only [A14,A13,A10,A9,A4,e12,t12,e9,t9,eq1,eq2,eq3,eq4,q1,r2,r3,g1,g2,↓vcPre,↓z0,↓reduceIte,vcPost,vcStd,Nat.reduceEqDiff,reduceCtorEq,Nat.reduceAdd,Nat.reduceLeDiff,Int.reduceLT,Int.reduceLE,↓u_setN]
   refine (s26 q 7 t tok).Q ?_
   rintro v s ⟨rfl,rfl⟩
   simp only [↓vcPre,↓z0,↓reduceIte,vcPost,vcStd,Nat.reduceEqDiff,reduceCtorEq,Nat.reduceAdd,Nat.reduceLeDiff,Int.reduceLT,Int.reduceLE,↓u_setN]
   refine AllocQ.i0 fun p17 hp17 => ?_
   have nz:¬ p10=p17:=fun e=>by subst e;rw [A10] at hp17;cases hp17
   have h17:σ p17=none:=zl sA hp17
   have sB:=za (o:=Obj.box (canonA t).c) (za (o:=Obj.box zCells) sA h17) h17
   simp only [hzc,e9,A10,nz,t9,↓vcPre,↓z0,↓reduceIte,vcPost,vcStd,Nat.reduceEqDiff,reduceCtorEq,Nat.reduceAdd,Nat.reduceLeDiff,Int.reduceLT,Int.reduceLE,↓u_setN]
   refine hrc.Q ?_
   simp only [↓vcPre,↓z0,↓reduceIte,vcPost,vcStd,Nat.reduceEqDiff,reduceCtorEq,Nat.reduceAdd,Nat.reduceLeDiff,Int.reduceLT,Int.reduceLE,↓u_setN]
   refine hka.Q ?_
   simp only [↓vcPre,↓z0,↓reduceIte,vcPost,vcStd,Nat.reduceEqDiff,reduceCtorEq,Nat.reduceAdd,Nat.reduceLeDiff,Int.reduceLT,Int.reduceLE,↓u_setN]
   refine c28.Q ?_
   simp only [↓vcPre,↓z0,↓reduceIte,vcPost,vcStd,Nat.reduceEqDiff,reduceCtorEq,Nat.reduceAdd,Nat.reduceLeDiff,Int.reduceLT,Int.reduceLE,↓u_setN]
   exact sB
end Go.Am
namespace Go.Am
open Go.Proofs
theorem z94 (xs:List AV) (h:TOk Try.prog 3 57 xs):∃ r:Rule,ImpL xs r.c∧r.ok:=by
 obtain ⟨a1,b1,rfl,h1,a2,b2,rfl,h2,a3,b3,rfl,h3,a4,b4,rfl,h4,a5,b5,rfl,h5,a6,b6,rfl,h6,a7,b7,rfl,h7,a8,b8,rfl,h8,a9,b9,rfl,h9,a10,b10,rfl,h10,a11,b11,rfl,h11,rfl⟩:=TOk.struct (ts:=[51,3,3,30,4,4,30,4,30,3,30]) Try.underlying57 rfl h
 obtain ⟨p1,q1,rfl,g1,p2,q2,rfl,g2,rfl⟩:=TOk.struct (ts:=[30,3]) Try.underlying51 rfl h1
 obtain ⟨m1,rfl,_,_⟩:=TOk.int Try.underlying30 g1
 obtain ⟨m2,rfl,l1,l2⟩:=TOk.int Try.underlying3 g2
 obtain ⟨m3,rfl,_,_⟩:=TOk.int Try.underlying3 h2
 obtain ⟨m4,rfl,_,_⟩:=TOk.int Try.underlying3 h3
 obtain ⟨m5,rfl,_,_⟩:=TOk.int Try.underlying30 h4
 obtain ⟨m6,rfl⟩:=TOk.bool Try.underlying4 h5
 obtain ⟨m7,rfl⟩:=TOk.bool Try.underlying4 h6
 obtain ⟨m8,rfl,_,_⟩:=TOk.int Try.underlying30 h7
 obtain ⟨m9,rfl⟩:=TOk.bool Try.underlying4 h8
 obtain ⟨m10,rfl,_,_⟩:=TOk.int Try.underlying30 h9
 obtain ⟨m11,rfl,k1,k2⟩:=TOk.int Try.underlying3 h10
 obtain ⟨m12,rfl,_,_⟩:=TOk.int Try.underlying30 h11
 exact ⟨⟨m1,m2,m3,m4,m5,m6,m7,m8,m9,m10,m11,m12⟩,((ImpL.one rfl).append ((ImpL.one rfl).append .nil)).append ((ImpL.one rfl).append ((ImpL.one rfl).append ((ImpL.one rfl).append ((ImpL.one rfl).append ((ImpL.one rfl).append ((ImpL.one rfl).append ((ImpL.one rfl).append ((ImpL.one rfl).append ((ImpL.one rfl).append ((ImpL.one rfl).append .nil)))))))))),⟨l1,l2⟩,⟨k1,k2⟩⟩
theorem zbe {w:World} {a:List AV} {v:Array Value} (hr:VRel (G0 w) w (.agg a) (.agg v)) (h:TOk Try.prog 3 57 a):∃ r:Rule,VRel (G0 w) w (.agg r.c) (.agg v)∧r.ok:=by
 obtain ⟨r,hi,ho⟩:=z94 _ h
 exact ⟨r,z1f hi hr,ho⟩
theorem wfU {n:Int} (_:(Lit.int .u32 n).wf=true):True:=trivial
theorem zb1 (r:Rule) (hr:r.ok) (n:Int) (_:True) (size:Int) (hs:I64 size) (a:At) (ha:I64 a.org∧okNums a):Pur Try.prog 5 [.agg r.c,.int .u32 n,.int .i64 size,.agg a.c] (.bool true):=z5h r n size a hr hs ha.1
end Go.Am
