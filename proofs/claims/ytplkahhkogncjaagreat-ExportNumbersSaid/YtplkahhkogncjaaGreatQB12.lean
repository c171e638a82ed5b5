/- A part of the proof: a logic for calls over plain values, and the functions that the law reaches, each walked once. -/
import Derived.Test.YtplkahhkogncjaaGreatQB11
import Derived.RangeFuncBox
import Derived.RangeFuncLeaves
import Derived.Shelf.Abstract
import Derived.WalkKit
import Derived.OwnWalkIn
import Derived.TacticsInMore
import Derived.LoopNIn
import Derived.LoopIn
import Derived.Maps.AppendAt
import Derived.Test.YtplkahhkogncjaaGreatProg
set_option linter.unusedVariables false
set_option linter.unusedSimpArgs false
set_option linter.unusedSectionVars false
namespace Go.Am.AS
open Go.RowKit Go.Shelf Go.Proofs
set_option linter.unusedVariables false
set_option linter.unusedSimpArgs false
attribute [local go_sem] Oper.semAt_some
def upto {α:Type} (f:Nat→α) (k:Nat):List α:=(List.range k).map f
theorem z21 {α:Type} (f:Nat→α) (k:Nat):upto f (k+1)=upto f k++[f k]:=by simp [upto,List.range_succ]
theorem z3r {α:Type} (f:Nat→α) (k:Nat):(upto f k).length=k:=by simp [upto]
theorem z8q (zs:List Int):upto (fun j=>zs[j]?.getD 0) zs.length=zs:=by
 apply List.ext_getElem
 ·simp [upto]
 ·intro i h1 h2
  simp [upto,h2]
set_option maxRecDepth 100000 in
set_option maxHeartbeats 2000000 in
theorem z5k (F:Fence) (n:Nat) (h7:F.fn 175) (hro:F.round=none) (hn:1≤n) (l Bs oB n₀ b off len cap:Nat) (pa:Option Addr) (zs:List Int) (hreach:len≤9223372036854775806) (hpa:0<len→pa=some ⟨b,off,none⟩∧b<n₀) (J Jx:List Int→World→Prop)
 (hY:∀ pre x W,J pre W→pre.length<len→YieldAt F (n - 1) Tryz.prog l #[.int .u32 x] W fun e W' =>
   (e = .returned (.bool true)∧J (pre++[x]) W'∧Below n₀ W W')∨(e = .returned (.bool false)∧Jx (pre++[x]) W'))
 (W:World) (hBs:W.cell? ⟨Bs,oB,none⟩=some (.slice pa len cap)) (hc:∀ j,j<len→W.cell? ⟨b,off+j,none⟩=some (.int .u32 (zs[j]?.getD 0))) (h0:J [] W) :
 CallsIn F n Tryz.prog 175 #[.func (.yield l) #[] #[],.pointer (some ⟨Bs,oB,none⟩)] W fun e W'=>(∃ v,e = .returned v) ∧
  ((∃ ys,ys=upto (fun j=>zs[j]?.getD 0) len∧J ys W')∨(∃ pre,(∃ k,k≤len∧pre=upto (fun j=>zs[j]?.getD 0) k)∧Jx pre W')):=by
 refine callsIn_of_wp Tryz.func175 rfl h7 ?_ hro
 simp only [Tryz.ntmps175,List.size_toArray,List.length_cons,List.length_nil,Nat.reduceAdd,Nat.reduceSub,Array.replicate_succ,Array.replicate_zero,List.push_toArray,List.append_toArray,List.nil_append,List.cons_append]
 gi_wp2
 gi_loopw [7] (fun i wr=>∃ k:Nat,k≤len∧i = .int .i64 k∧J (upto (fun j=>zs[j]?.getD 0) k) wr∧Below n₀ W wr)
  (fun i _=>len - (intOf i).toNat)
 case atStart=>exact ⟨0,Nat.zero_le _,rfl,h0,Below.refl _ _⟩
 case round =>
  obtain ⟨k,hk,rfl,hJs,hnx⟩:=hrel
  have hcx:b<n₀→k<len→wr.cell? ⟨b,off+k,none⟩=some (.int .u32 (zs[k]?.getD 0)):=fun hb h=>(hnx.cell (p:=⟨b,off+k,none⟩) hb).trans (hc k h)
  by_cases hlt:k<len
  ·obtain ⟨fn,tmps,assign,body,hy,hR⟩:=hY _ (zs[k]?.getD 0) wr hJs (by rw [z3r];exact hlt)
   obtain ⟨hpa1,hb⟩:=hpa (by omega)
   subst hpa1
   have hcx':=hcx hb hlt
   gi_wp2
   refine hR.mono ?_
   rintro e W3 (⟨rfl,hJ3,hk3⟩ | ⟨rfl,hJx3⟩)
   ·gi_wp2
    go_roundw
    case rel=>exact ⟨k+1,by omega,by simp,by rw [z21];exact hJ3,hnx.trans hk3⟩
    case measure=>simp [intOf];omega
   ·gi_wp2
    refine bodyPost_ret (results_none rfl _ _ _) rfl ?_
    exact ⟨⟨_,rfl⟩,.inr ⟨_,⟨k+1,by omega,(z21 _ _).symm⟩,hJx3⟩⟩
  ·obtain rfl:k=len:=by omega
   gi_wp2
   go_end0
   exact ⟨⟨_,rfl⟩,.inl ⟨_,rfl,hJs⟩⟩
theorem z3d (F:Fence) (n:Nat) (h7:F.fn 175) (hro:F.round=none) (hn:1≤n) (Bs oB n₀ b off cap:Nat) (pa:Option Addr) (zs:List Int) (w:World) (hreach:zs.length≤9223372036854775806) (hBs:Bs<w.heap.size) (hn₀:n₀≤w.heap.size) (hpa:0<zs.length→pa=some ⟨b,off,none⟩∧b<n₀)
 (hc0:w.cell? ⟨Bs,oB,none⟩=some (.slice pa zs.length cap)) (hc:∀ j,j<zs.length→w.cell? ⟨b,off+j,none⟩=some (.int .u32 (zs[j]?.getD 0))) :
 SeqStopsK F n Tryz.prog 175 #[.pointer (some ⟨Bs,oB,none⟩)] (fun x:Int => #[Value.int .u32 x]) (Below n₀) (fun ys=>ys=zs) (fun _=>True) zs.length w:=fun l J Jx W hW _ _ hY h0=>by
 refine (z5k F n h7 hro hn l Bs oB n₀ b off zs.length cap pa zs hreach hpa J Jx hY W ((hW.cell (p:=⟨Bs,oB,none⟩) hBs).trans hc0) (fun j hj=>(hW.cell (p:=⟨b,off+j,none⟩) (Nat.lt_of_lt_of_le (hpa (by omega)).2 hn₀)).trans (hc j hj)) h0).mono ?_
 rintro e W' ⟨hv,⟨ys,h1,h2⟩ | ⟨pre,_,h2⟩⟩
 ·exact ⟨hv,.inl ⟨ys,by rw [h1,z8q],h2⟩⟩
 ·exact ⟨hv,.inr ⟨pre,trivial,h2⟩⟩
theorem ze1:(Tryz.prog.info? 22).map (fun i=>(i.zero,i.size,i.bytes))=some (some (.int .u32 0),1,4):=by kernel_rfl
set_option maxRecDepth 100000 in
set_option maxHeartbeats 2000000 in
theorem z5p (F:Fence) (n:Nat) (h3:F.fn 206) (h5:F.fn 175) (hro:F.round=none) (hn:3≤n) (Bs oB b off cap:Nat) (pa:Option Addr) (zs:List Int) (hlen:zs.length*4≤140737488355328) (w:World) (hBs:Bs<w.heap.size) (hpa:0<zs.length→pa=some ⟨b,off,none⟩∧b<w.heap.size)
 (hc0:w.cell? ⟨Bs,oB,none⟩=some (.slice pa zs.length cap)) (hcs:∀ j,j<zs.length→w.cell? ⟨b,off+j,none⟩=some (.int .u32 (zs[j]?.getD 0))) :
 CallsIn F n Tryz.prog 206 #[.slice none 0 0,.func (.func 175) #[] #[.pointer (some ⟨Bs,oB,none⟩)]] w fun e W'=>∃ v,e = .returned v∧W'.ownsRow w.heap.size 22 1 v zs.length (zs.map (Value.int .u32))∧(v = .slice none 0 0↔zs=[])∧Below w.heap.size w W':=by
 have h1:1≤n:=by omega
 have hml:zs.length≤maxLen:=by unfold maxLen;omega
 obtain ⟨i0,hi,hz0,hz1,hz2⟩:=info_parts ze1
 refine callsIn_of_wp_marks Tryz.func206 rfl h3 ?_ hro
 simp only [Tryz.ntmps206,List.size_toArray,List.length_cons,List.length_nil,Nat.reduceAdd,Nat.reduceSub,Array.replicate_succ,Array.replicate_zero,List.push_toArray,List.append_toArray,List.nil_append,List.cons_append]
 gi_wp2
 have bO:=Boxed.new w 30 (.slice none 0 0)
 have hB0:Below w.heap.size w (w.alloc (.cells #[.slice none 0 0] 30)):=(Below.refl _ w).alloc (Nat.le_refl _) _
 refine wpIn_rangeFunc_ownG hro h1 (gf:=175) (lb := #[.pointer (some ⟨Bs,oB,none⟩)]) rfl h5 (enters_of Tryz.func175 (by kernel_rfl) rfl)
  (z3d F (n - 1) h5 hro (by omega) Bs oB w.heap.size b off cap pa zs _ (by omega) (by simp;omega) (by simp) hpa ((hB0.cell (p:=⟨Bs,oB,none⟩) hBs).trans hc0) (fun j hj=>(hB0.cell (p:=⟨b,off+j,none⟩) (hpa (by omega)).2).trans (hcs j hj))) belowK_t (belowK_b (by simp)) (Below.refl _ _) (fun _=>rfl)
  (fun pre W=>(∃ v,Boxed W w.heap.size 30 v∧W.ownsRow w.heap.size 22 1 v pre.length (pre.map (Value.int .u32))∧(v = .slice none 0 0↔pre=[]))∧Below w.heap.size w W)
  (fun _ _ _=>False)
  (OwnFrom.and (Own.from (holdsRow_own w.heap.size w.heap.size 30 22 1 (fun pre:List Int=>pre.length) (fun pre=>pre.map (Value.int .u32)) (fun pre v=>v = .slice none 0 0↔pre=[])) _) (ownFrom_below (Nat.le_refl _) (by simp)))
  (fun _ _ _ _ _ hs _ _=>hs)
  ⟨⟨_,bO,World.ownsRow_nil _ _ _ _,by simp⟩,hB0⟩
  (fun x=>{ tmps := #[.slice none 0 0,.func (.func 175) #[] #[.pointer (some ⟨Bs,oB,none⟩)],.pointer (some ⟨w.heap.size,0,none⟩),undef,.slice none 0 0,.int .u32 x,.func (.func 175) #[] #[.pointer (some ⟨Bs,oB,none⟩)],.int .u32 x,undef,undef,undef,undef,undef],defers:=[] }) ?assign ?body ?done ?stop
 case assign =>
  intro l x W K hK
  gi_wp2
  exact hK
 case body =>
  rintro l pre x W ⟨⟨v,hv,hrow,hnil⟩,hB⟩ hlt
  have hc:=hv.cell
  gi_wp2_with (gi_at_builtin;refine wpListIn_append_own _ rfl _ _ 30 rfl w.heap.size 22 i0 (.int .u32 0) 1 4 Tryz.underlying30 hi hz0 hz1 hz2 rfl (by decide) _ _ _ rfl (hrow.alloc _) ⟨W.heap.size,0,none⟩ 1 1 [.int .u32 x] rfl rfl (cell_one_new _ _ _) (by simp [Value.oneCell']) (by omega) (by omega) (by have:=hB.size;simp;omega) ?_;intro v' w1 hown' hgrow _;obtain ⟨g',cap',rfl⟩:=ownsRow_succ hown';obtain ⟨hv1,hv2,hr2,hk2,hb2⟩:=hv.appended (by decide) hrow hB.size (Nat.le_refl _) hown' hgrow;have hc1:=hv1.cell;have hf1:=hv1.frozen)
  exact ⟨hk2.from _,hb2,⟨_,hv2,by simpa using hr2,by simp⟩,hB.trans hb2⟩
 case done =>
  rintro D ys W hD rfl ⟨⟨v,hv,hrow,hnil⟩,hB⟩ hK
  have hc:=hv.cell
  gi_wp2
  refine ⟨by simp,.inl ⟨_,_,rfl,run_takeDeferred hK,?_⟩⟩
  exact ⟨_,results_tmp rfl _ _ _,v,rfl,ownsRow_putObj hrow _ hK rfl,hnil,hB.trans (belowK_b (w:=w) (Nat.le_refl _) W D _ _ (by simp at hD;omega) hK rfl rfl)⟩
 case stop =>
  rintro D c pre W _ _ h _
  exact h.elim
theorem append_calls:Go.Am.SeqHolds Tryz.prog 206 175 .u32 22 4:=fun Bs oB b off cap pa zs w hlen hBs hpa hc0 hcs =>
 (callsIn_wide (n:=3)).1 (z5p _ 3 trivial trivial rfl (Nat.le_refl _) Bs oB b off cap pa zs hlen w hBs hpa hc0 hcs)
theorem ent:Go.Am.Ent Tryz.prog 206:=⟨_,Tryz.func206,by decide,rfl⟩
end Go.Am.AS
namespace Go.Am
open Go.Proofs Go.Sort
def cU (x:Int):List AV:=[.int .u32 x]
abbrev LessU:Prop:=∀ x y:Int,Pur Tryz.prog 229 [.int .u32 x,.int .u32 y] (.bool (decide (cfU x y<0)))
theorem z7a (x:Int):Pur Tryz.prog 186 [.int .u32 x] (.bool false):=by
 refine zn Tst.F186 (by simp [Tst.F186,Fn.mkX]) fun σ => ?_
 simp only [Tst.F186,Fn.mkX,Tst.b186]
 simp only [↓vcPre,↓z0,↓reduceIte,vcPost,vcStd,Nat.reduceEqDiff,reduceCtorEq,Nat.reduceAdd,Nat.reduceLeDiff,Int.reduceLT,Int.reduceLE,↓u_setN]
theorem ze2:LessU:=by
 intro x y
 refine zn Tst.F229 (by simp [Tst.F229,Fn.mkX]) fun σ => ?_
 simp only [Tst.F229,Fn.mkX,Tst.b229]
 simp only [↓vcPre,↓z0,↓reduceIte,vcPost,vcStd,Nat.reduceEqDiff,reduceCtorEq,Nat.reduceAdd,Nat.reduceLeDiff,Int.reduceLT,Int.reduceLE,↓u_setN]
 refine (z7a x).Q ?_
 simp only [↓vcPre,↓z0,↓reduceIte,vcPost,vcStd,Nat.reduceEqDiff,reduceCtorEq,Nat.reduceAdd,Nat.reduceLeDiff,Int.reduceLT,Int.reduceLE,↓u_setN]
 have e:decide (x<y)=decide (cfU x y<0):=by
  rw [Bool.eq_iff_iff,decide_eq_true_eq,decide_eq_true_eq];unfold cfU;omega
 rw [e]
theorem hU:SH Tryz.prog NU .u32:=zdm ze2 zbj zg3 zgo
theorem zgf {σ:Store} {b:Nat} {S:AV} {zs:List Int} (hbox:σ b=some (.box [S])) (hS:slc σ 1 S=some (zs.map cU)) (hle:zs.length≤1000000000) :
 ACalls Tryz.prog 134 [.fn 175 [.ptr b 0]] σ (fun r s=>(zs=[]∧r = .nils∧s=σ)∨(zs≠[]∧∃ g,∃ L:List Int,σ g=none∧L.Perm zs∧L.Pairwise (· ≤ ·)∧r = .os g 1 0 L.length∧s=σ.set g (.arr 1 (L.map cU)))):=by
 refine zk Tst.F134 (by simp [Tst.F134,Fn.mkX]) ?_
 simp only [Tst.F134,Fn.mkX,Tst.b134]
 simp only [↓vcPre,↓z0,↓reduceIte,vcPost,vcStd,Nat.reduceEqDiff,reduceCtorEq,Nat.reduceAdd,Nat.reduceLeDiff,Int.reduceLT,Int.reduceLE,↓u_setN]
 have hcol:ACalls Tryz.prog 173 [.fn 175 [.ptr b 0]] σ (fun a s=>(zs=[]∧a = .nils∧s=σ)∨(zs≠[]∧∃ g,σ g=none∧a = .os g 1 0 zs.length∧s=σ.set g (.arr 1 (zs.map cU)))):=by
  refine zk Tst.F173 (by simp [Tst.F173,Fn.mkX]) ?_
  simp only [Tst.F173,Fn.mkX,Tst.b173]
  simp only [↓vcPre,↓z0,↓reduceIte,vcPost,vcStd,Nat.reduceEqDiff,reduceCtorEq,Nat.reduceAdd,Nat.reduceLeDiff,Int.reduceLT,Int.reduceLE,↓u_setN]
  refine (z83 AS.ent AS.append_calls hbox hS (by omega)).Q ?_
  rintro r s (⟨hz,rfl,rfl⟩ | ⟨hz,g,hg,rfl,rfl⟩)
  ·simp only [↓vcPre,↓z0,↓reduceIte,vcPost,vcStd,Nat.reduceEqDiff,reduceCtorEq,Nat.reduceAdd,Nat.reduceLeDiff,Int.reduceLT,Int.reduceLE,↓u_setN]
   exact EndQ.to _ _ rfl (Store.sub_refl _) (.inl ⟨hz,rfl,rfl⟩)
  ·simp only [↓vcPre,↓z0,↓reduceIte,vcPost,vcStd,Nat.reduceEqDiff,reduceCtorEq,Nat.reduceAdd,Nat.reduceLeDiff,Int.reduceLT,Int.reduceLE,↓u_setN]
   exact EndQ.to _ _ rfl (Store.sub_refl _) (.inr ⟨hz,g,hg,rfl,rfl⟩)
 refine hcol.Q ?_
 rintro r s (⟨hz,rfl,rfl⟩ | ⟨hz,g,hg,rfl,rfl⟩)
 ·simp only [↓vcPre,↓z0,↓reduceIte,vcPost,vcStd,Nat.reduceEqDiff,reduceCtorEq,Nat.reduceAdd,Nat.reduceLeDiff,Int.reduceLT,Int.reduceLE,↓u_setN]
  refine (z99 hU _).Q ?_
  rintro r s ⟨rfl,rfl⟩
  simp only [↓vcPre,↓z0,↓reduceIte,vcPost,vcStd,Nat.reduceEqDiff,reduceCtorEq,Nat.reduceAdd,Nat.reduceLeDiff,Int.reduceLT,Int.reduceLE,↓u_setN]
  exact EndQ.to _ _ rfl (Store.sub_refl _) (.inl ⟨hz,rfl,rfl⟩)
 ·simp only [↓vcPre,↓z0,↓reduceIte,vcPost,vcStd,Nat.reduceEqDiff,reduceCtorEq,Nat.reduceAdd,Nat.reduceLeDiff,Int.reduceLT,Int.reduceLE,↓u_setN]
  refine (z7k hU (L:=zs) (Store.set_same _ _ _) (by omega)).Q ?_
  rintro r s ⟨rfl,L,hp,hl,rfl⟩
  simp only [↓vcPre,↓z0,↓reduceIte,vcPost,vcStd,Nat.reduceEqDiff,reduceCtorEq,Nat.reduceAdd,Nat.reduceLeDiff,Int.reduceLT,Int.reduceLE,↓u_setN]
  exact EndQ.to _ _ rfl (Store.sub_refl _) (.inr ⟨hz,g,L,hg,hp,hl,by rw [hp.length_eq],by rw [Store.set_set];rfl⟩)
theorem zgg (S:AV) (hS:S.isTup=false∧S.cells=[S]) (σ:Store):ACalls Tryz.prog 135 [S] σ (fun r s=>∃ b,σ b=none∧r = .fn 175 [.ptr b 0]∧s=σ.set b (.box [S])):=by
 refine zk Tst.F135 (by simp [Tst.F135,Fn.mkX]) ?_
 simp only [Tst.F135,Fn.mkX,Tst.b135]
 simp only [hS.1,hS.2,↓vcPre,↓z0,↓reduceIte,vcPost,vcStd,Nat.reduceEqDiff,reduceCtorEq,Nat.reduceAdd,Nat.reduceLeDiff,Int.reduceLT,Int.reduceLE,↓u_setN]
 refine AllocQ.i0 fun b hb => ?_
 simp only [↓vcPre,↓z0,↓reduceIte,vcPost,vcStd,Nat.reduceEqDiff,reduceCtorEq,Nat.reduceAdd,Nat.reduceLeDiff,Int.reduceLT,Int.reduceLE,↓u_setN]
 exact EndQ.to _ _ rfl (Store.sub_refl _) ⟨b,hb,rfl,rfl⟩
end Go.Am
namespace Go.Am
open Go.Proofs Go.Sort
theorem zej {P:Program} {n:Nat} {z:List AV} {a:AV} {σ:Store} {K:AV→Store→Prop}:lwp P (.clr n z) [a] σ K↔clrwp n z a σ (K (.tup [])):=by simp only [lwp]
def ddA:List Int→List Int
 | []=>[]
 | [a]=>[a]
 | a::b::r=>if a=b then ddA (b::r) else a::ddA (b::r)
theorem z2d (x:Int):∀ l:List Int,ddA (l++[x])=if l.getLast? = some x then ddA l else ddA l++[x]
 | []=>by simp [ddA]
 | [a]=>by
   by_cases h:a=x
   ·simp [ddA,h]
   ·simp [ddA,h]
 | a::b::r=>by
   have ih:=z2d x (b::r)
   simp only [List.cons_append] at ih ⊢
   simp only [ddA,List.getLast?_cons_cons]
   rw [ih]
   by_cases hab:a=b
   ·simp only [hab,if_true]
   ·simp only [hab,if_false]
    split <;> simp
theorem z06 {L:List Int} {k:Nat} (h1:1≤k) (h:k<L.length):ddA (L.take (k+1))=if L[k - 1]'(by omega)=L[k] then ddA (L.take k) else ddA (L.take k)++[L[k]]:=by
 have e:L.take (k+1)=L.take k++[L[k]]:=by rw [List.take_add_one,List.getElem?_eq_getElem h];rfl
 rw [e,z2d]
 have:(L.take k).getLast? = some (L[k - 1]'(by omega)):=by
  rw [List.getLast?_eq_getElem?,List.length_take,Nat.min_eq_left (by omega),List.getElem?_take_of_lt (by omega),List.getElem?_eq_getElem (by omega)]
 rw [this]
 simp
theorem zge {σ:Store} {g:Nat} {L:List Int} (hσ:σ g=some (.arr 1 (L.map cU))) (hl:L.length<1000000000000) :
 ACalls Tryz.prog 133 [.os g 1 0 L.length] σ (fun r s=>∃ M:List Int,M.length=L.length∧M.take (ddA L).length=ddA L∧(ddA L).length≤L.length∧r = .os g 1 0 (ddA L).length∧s=σ.set g (.arr 1 (M.map cU))):=by
 refine zk Tst.F133 (by simp [Tst.F133,Fn.mkX]) ?_
 simp only [Tst.F133,Fn.mkX,Tst.b133]
 simp only [↓vcPre,↓z0,↓reduceIte,vcPost,vcStd,Nat.reduceEqDiff,reduceCtorEq,Nat.reduceAdd,Nat.reduceLeDiff,Int.reduceLT,Int.reduceLE,↓u_setN]
 refine ⟨fun c0 => ?_,fun c0 => ?_⟩
 ·have hd:ddA L=L:=by
   match L,c0 with
   | [],_=>rfl
   | [a],_=>rfl
   | a::b::r,h=>simp at h;omega
  refine EndQ.to σ _ rfl (Store.sub_refl _) ⟨L,rfl,by rw [hd];simp,by rw [hd];exact Nat.le_refl _,by rw [hd],(Store.set_self hσ).symm⟩
 ·have eS:σ=σ.set g (.arr 1 (L.map cU)):=(Store.set_self hσ).symm
  refine LoopQ.inv (S:=Nat) (fun k=>[(0,.os g 1 0 L.length),(3,.int .i64 (k:Int))]) (fun _=>σ) (fun k=>1≤k∧k≤L.length∧ddA (L.take k)=L.take k) (fun k=>L.length+1 - k) 1 rfl (Store.sub_refl _) ⟨by omega,by omega,by
   cases L with
   | nil=>rfl
   | cons a r=>simp [ddA]⟩ ?_
  rintro k ⟨h1,h2,h3⟩
  simp only [hσ,↓vcPre,↓z0,↓reduceIte,vcPost,vcStd,Nat.reduceEqDiff,reduceCtorEq,Nat.reduceAdd,Nat.reduceLeDiff,Int.reduceLT,Int.reduceLE,↓u_setN]
  have ek:IntKind.i64.wrap ((k:Int)+1)=((k+1:Nat):Int):=by rw [zd (by unfold I64;omega)];omega
  have em:IntKind.i64.wrap ((k:Int) - 1)=((k - 1:Nat):Int):=by rw [zd (by unfold I64;omega)];omega
  refine ⟨fun c1 => ?_,fun c1 => ?_⟩
  ·simp only [em,Int.toNat_natCast]
   refine ⟨by omega,by omega,by omega,by simp [cU],?_⟩
   simp only [cU,ek,em,Nat.zero_add,Option.getD_none,↓vcPre,↓z0,↓reduceIte,vcPost,vcStd,Nat.reduceEqDiff,reduceCtorEq,Nat.reduceAdd,Nat.reduceLeDiff,Int.reduceLT,Int.reduceLE,↓u_setN]
   refine ⟨by omega,fun c2 => ?_,fun c2 => ?_⟩
   ·refine ⟨by omega,?_⟩
    have hd0:ddA (L.take (k+1))=L.take k:=by
     rw [z06 h1 c1,if_pos c2.symm,h3]
    refine LoopQ.inv (S:=Nat×Nat×List Int) (fun q=>[(0,.os g 1 0 L.length),(3,.int .i64 (q.1:Int)),(4,.os g 1 k (L.length - k)),(5,.int .i64 (q.2.1:Int))]) (fun q=>σ.set g (.arr 1 (q.2.2.map cU)))
     (fun q=>1≤q.2.1∧k+q.2.1≤L.length∧1≤q.1∧q.1+1≤k+q.2.1∧q.2.2.length=L.length∧q.2.2.take q.1=ddA (L.take (k+q.2.1))∧q.1=(ddA (L.take (k+q.2.1))).length∧q.2.2.drop (k+q.2.1 - 1)=L.drop (k+q.2.1 - 1)) (fun q=>L.length+1 - q.2.1) (k,1,L) rfl (by rw [←eS];exact Store.sub_refl _)
     ⟨by simp only;omega,by simp only;omega,by simp only;omega,by simp only;omega,rfl,by simp only [hd0],by simp only [hd0,List.length_take];omega,rfl⟩ ?_
    rintro ⟨p,m,M⟩ ⟨g1,g2,g3,g4,g5,g6,g7,g8⟩
    simp only at g1 g2 g3 g4 g5 g6 g7 g8
    simp only [Nat.zero_add,↓vcPre,↓z0,↓reduceIte,vcPost,vcStd,Nat.reduceEqDiff,reduceCtorEq,Nat.reduceAdd,Nat.reduceLeDiff,Int.reduceLT,Int.reduceLE,↓u_setN]
    have en:IntKind.i64.wrap ((m:Int)+1)=((m+1:Nat):Int):=by rw [zd (by unfold I64;omega)];omega
    have ep:IntKind.i64.wrap ((p:Int)+1)=((p+1:Nat):Int):=by rw [zd (by unfold I64;omega)];omega
    have eq:IntKind.i64.wrap ((m:Int) - 1)=((m - 1:Nat):Int):=by rw [zd (by unfold I64;omega)];omega
    refine ⟨fun d1 => ?_,fun d1 => ?_⟩
    ·have hM1:M[k+m]'(by omega)=L[k+m]'(by omega):=by
      have:=congrArg (fun l:List Int=>l[1]?) g8
      simp only [List.getElem?_drop] at this
      rw [show k+m - 1+1=k+m by omega,List.getElem?_eq_getElem (by omega),List.getElem?_eq_getElem (by omega)] at this
      exact Option.some.inj this
     have hM0:M[k+(m - 1)]'(by omega)=L[k+m - 1]'(by omega):=by
      have:=congrArg (fun l:List Int=>l[0]?) g8
      simp only [List.getElem?_drop,Nat.add_zero] at this
      rw [List.getElem?_eq_getElem (by omega),List.getElem?_eq_getElem (by omega)] at this
      have h9:=Option.some.inj this
      have e9:k+(m - 1)=k+m - 1:=by omega
      simp only [e9];exact h9
     have hstep:=z06 (L:=L) (k:=k+m) (by omega) (by omega)
     simp only [eq,Int.toNat_natCast]
     refine ⟨by omega,⟨by omega,by omega⟩,by omega,by simp [cU],?_⟩
     simp only [hM1,hM0]
     simp only [cU,en,ep,Nat.zero_add,hM1,hM0,↓vcPre,↓z0,↓reduceIte,vcPost,vcStd,Nat.reduceEqDiff,reduceCtorEq,Nat.reduceAdd,Nat.reduceLeDiff,Int.reduceLT,Int.reduceLE,↓u_setN]
     refine ⟨by omega,fun e1=>⟨by omega,by omega,by omega,by omega,?_⟩,fun e1 => ?_⟩
     ·have eset:(List.map cU M).set p [AV.int IntKind.u32 (L[k+m]'(by omega))]=(M.set p (L[k+m]'(by omega))).map cU:=by rw [List.map_set];rfl
      rw [eset,Store.set_set]
      rw [if_neg (fun e=>e1 e.symm)] at hstep
      have el:(ddA (L.take (k+m+1))).length=p+1:=by rw [hstep,List.length_append,←g7];rfl
      refine NextQ.to (p+1,m+1,M.set p (L[k+m]'(by omega))) rfl (Store.sub_refl _) (by simp only;omega)
       ⟨by simp only;omega,by simp only;omega,by simp only;omega,by simp only;omega,by simp [g5],?_,?_,?_⟩
      ·simp only
       rw [show k+(m+1)=k+m+1 by omega,hstep,List.take_add_one,List.take_set,List.getElem?_set_self (by omega),←g6,List.set_eq_of_length_le (by simp;omega)]
       rfl
      ·simp only
       rw [show k+(m+1)=k+m+1 by omega,el]
      ·simp only
       rw [List.drop_set,if_pos (by omega),show k+(m+1) - 1=(k+m - 1)+1 by omega,←List.drop_drop,←List.drop_drop (l:=L),g8]
     ·rw [if_pos e1.symm] at hstep
      refine NextQ.to (p,m+1,M) rfl (Store.sub_refl _) (by simp only;omega)
       ⟨by simp only;omega,by simp only;omega,by simp only;omega,by simp only;omega,g5,?_,?_,?_⟩
      ·simp only
       rw [show k+(m+1)=k+m+1 by omega,hstep,g6]
      ·simp only
       rw [show k+(m+1)=k+m+1 by omega,hstep,g7]
      ·simp only
       rw [show k+(m+1) - 1=(k+m - 1)+1 by omega,←List.drop_drop,←List.drop_drop (l:=L),←g8]
    ·have hkm:L.take (k+m)=L:=List.take_of_length_le (by omega)
     rw [hkm] at g6 g7
     simp only [Option.getD_none,Option.getD_some,Int.toNat_natCast]
     refine ⟨by omega,?_⟩
     rw [zej]
     simp only [clrwp,Store.set_same]
     refine ⟨trivial,trivial,by simp;omega,by omega,?_⟩
     have e1:(List.map cU M).take p++(List.replicate (L.length - p) [AV.int IntKind.u32 0]++(List.map cU M).drop (p+(L.length - p)))=(M.take p++List.replicate (L.length - p) 0).map cU:=by
      rw [List.drop_eq_nil_of_le (by simp;omega)]
      simp [cU,List.map_take]
     rw [e1,Store.set_set]
     refine EndQ.to (σ.set g (.arr 1 ((M.take p++List.replicate (L.length - p) 0).map cU))) _ rfl (Store.sub_refl _) ⟨_,by simp;omega,by rw [←g7,List.take_left' (by simp;omega)];exact g6,by omega,by rw [←g7];simp,rfl⟩
   ·refine NextQ.to (k+1) rfl (Store.sub_refl _) (by omega) ⟨by omega,by omega,?_⟩
    rw [z06 h1 c1,if_neg (fun e=>c2 e.symm),h3,List.take_add_one,List.getElem?_eq_getElem c1]
    rfl
  ·have hk:L.take k=L:=List.take_of_length_le (by omega)
   rw [hk] at h3
   refine EndQ.to σ _ rfl (Store.sub_refl _) ⟨L,rfl,by rw [h3];simp,by rw [h3];exact Nat.le_refl _,by rw [h3],(Store.set_self hσ).symm⟩
end Go.Am
namespace Go.Am
open Go.Proofs Go.Sort
structure Seg where
 kind:Int
 ls:List Int
def Seg.c (s:Seg):List AV:=[.int .i64 s.kind,.sl 1 (s.ls.map cU)]
structure At where
 org:Int
 path:List Seg
 nxt:Int
 hm:Bool
 med:Int
 hp:Bool
 prf:Int
 atm:Bool
 cms:List Int
def At.c (a:At):List AV:=[.int .i64 a.org,.sl 2 (a.path.map Seg.c),.int .u32 a.nxt,.bool a.hm,.int .u32 a.med,.bool a.hp,.int .u32 a.prf,.bool a.atm,.sl 1 (a.cms.map cU)]
def Seg.ok (s:Seg):Prop:=s.ls.length≤1000000
def At.ok (a:At):Prop:=a.path.length≤1000000∧(∀ s ∈ a.path,s.ok)∧a.cms.length≤1000000
theorem zbh (zs:List Int) (h:zs.length≤1000000000):Pur Tryz.prog 172 [.sl 1 (zs.map cU)] (.sl 1 (zs.map cU)):=by
 intro σ
 refine zk Tst.F172 (by simp [Tst.F172,Fn.mkX]) ?_
 simp only [Tst.F172,Fn.mkX,Tst.b172]
 simp only [↓vcPre,↓z0,↓reduceIte,vcPost,vcStd,Nat.reduceEqDiff,reduceCtorEq,Nat.reduceAdd,Nat.reduceLeDiff,Int.reduceLT,Int.reduceLE,↓u_setN]
 show nilqwp false (.sl 1 (zs.map cU)) _
 refine z3c fun b hb => ?_
 cases b with
 | true =>
   have hl:zs=[]:=by
    cases zs with
    | nil=>rfl
    | cons x r=>have:=hb (by simp);cases this
   subst hl
   simp only [↓vcPre,↓z0,↓reduceIte,vcPost,vcStd,Nat.reduceEqDiff,reduceCtorEq,Nat.reduceAdd,Nat.reduceLeDiff,Int.reduceLT,Int.reduceLE,↓u_setN]
   exact EndQ.nil1 1 σ rfl (Store.sub_refl _) ⟨rfl,rfl⟩
 | false =>
   simp only [↓vcPre,↓z0,↓reduceIte,vcPost,vcStd,Nat.reduceEqDiff,reduceCtorEq,Nat.reduceAdd,Nat.reduceLeDiff,Int.reduceLT,Int.reduceLE,↓u_setN]
   refine AllocQ.i0 fun i hi => ?_
   simp only [↓vcPre,↓z0,↓reduceIte,vcPost,vcStd,Nat.reduceEqDiff,reduceCtorEq,Nat.reduceAdd,Nat.reduceLeDiff,Int.reduceLT,Int.reduceLE,↓u_setN]
   refine yg (zq (Store.set_same _ _ _) rfl) (y := .sl 1 (zs.map cU)) yw (by simp;omega) fun j hj => ?_
   simp only [List.nil_append,List.length_nil,Nat.zero_add]
   refine EndQ.frz j 1 0 _ (zs.map cU) σ rfl (Store.set_same _ _ _) (by simp) (u7 hi hj) ⟨rfl,?_⟩
   rw [List.drop_zero,List.take_of_length_le (by simp)]
theorem zfm (p:List Seg) (h:p.length≤1000000) (ho:∀ s ∈ p,s.ok):Pur Tryz.prog 132 [.sl 2 (p.map Seg.c)] (.sl 2 (p.map Seg.c)):=by
 intro σ
 refine zk Tst.F132 (by simp [Tst.F132,Fn.mkX]) ?_
 simp only [Tst.F132,Fn.mkX,Tst.b132]
 simp only [↓vcPre,↓z0,↓reduceIte,vcPost,vcStd,Nat.reduceEqDiff,reduceCtorEq,Nat.reduceAdd,Nat.reduceLeDiff,Int.reduceLT,Int.reduceLE,↓u_setN]
 refine LoopQ.inv (S:=Nat×AV×Store) (fun q=>[(3,q.2.1),(6,.sl 2 (p.map Seg.c)),(7,.int .i64 (p.length:Int)),(8,.int .i64 (q.1:Int))]) (fun q=>q.2.2)
  (fun q=>q.1≤p.length∧Store.sub σ q.2.2∧Own 2 σ ((p.take q.1).map Seg.c) q.2.1 q.2.2) (fun q=>p.length+1 - q.1) (0,.nils,σ) rfl (Store.sub_refl _) ⟨by simp only;omega,Store.sub_refl _,.nil⟩ ?_
 rintro ⟨k,v,s⟩ ⟨hk,hs,ho'⟩
 simp only at hk hs ho'
 simp only [↓vcPre,↓z0,↓reduceIte,vcPost,vcStd,Nat.reduceEqDiff,reduceCtorEq,Nat.reduceAdd,Nat.reduceLeDiff,Int.reduceLT,Int.reduceLE,↓u_setN]
 refine ⟨fun c1 => ?_,fun c1 => ?_⟩
 ·have ek:IntKind.i64.wrap ((k:Int)+1)=((k+1:Nat):Int):=by rw [zd (by unfold I64;omega)];omega
  refine ⟨c1,by simp [Seg.c],?_⟩
  refine AllocQ.i0 fun i hi => ?_
  simp only [Seg.c,Store.set_set,↓vcPre,↓z0,↓reduceIte,vcPost,vcStd,Nat.reduceEqDiff,reduceCtorEq,Nat.reduceAdd,Nat.reduceLeDiff,Int.reduceLT,Int.reduceLE,↓u_setN]
  refine (zbh _ (by have:=ho _ (List.getElem_mem c1);unfold Seg.ok at this;omega)).q' ?_
  simp only [Store.set_set,↓vcPre,↓z0,↓reduceIte,vcPost,vcStd,Nat.reduceEqDiff,reduceCtorEq,Nat.reduceAdd,Nat.reduceLeDiff,Int.reduceLT,Int.reduceLE,↓u_setN]
  refine AllocQ.i1 fun j hj1 hj2 hj => ?_
  simp only [↓vcPre,↓z0,↓reduceIte,vcPost,vcStd,Nat.reduceEqDiff,reduceCtorEq,Nat.reduceAdd,Nat.reduceLeDiff,Int.reduceLT,Int.reduceLE,↓u_setN]
  refine Own.app (τ:=σ) (L:=(p.take k).map Seg.c) (Store.sub_trans hs (zp hi hj hj1)) (ho'.mono (zp hi hj hj1)) (zq (Store.set_same _ _ _) rfl) (by simp;omega) fun v' s' hs' ho'' => ?_
  rw [ek]
  refine NextQ.to (k+1,v',s') rfl (Store.sub_refl _) (by simp only;omega) ⟨by simp only;omega,hs',?_⟩
  simp only [List.take_add_one,List.getElem?_eq_getElem c1,Option.toList_some,List.map_append,List.map_cons,List.map_nil]
  exact ho''
 ·have hkl:p.take k=p:=List.take_of_length_le (by omega)
  rw [hkl] at ho'
  exact EndQ.own rfl ho' hs ⟨rfl,rfl⟩
end Go.Am
namespace Go.Am.Tsc
open Go.Proofs Go.Am.B
def t74_15:BC:=z [f 15 8 1,l 16 1 15,g 17 135 [.t 16],g 18 134 [.t 17],g 19 133 [.t 18],f 20 8 1,s 1 20 19] [1,2] (z [⟨some 21,none,.load (.ld 9 true),[.t 1]⟩,s 9 2 21] [2] .ret)
def b74:BC:=z [⟨some 1,none,.alloc (.box),[.t 0]⟩,⟨some 2,none,.alloc (.alloc [(.int .i64 0),.nils,(.int .u32 0),(.bool false),(.int .u32 0),(.bool false),(.int .u32 0),(.bool false),.nils]),[]⟩] [1,2] (z [f 3 1 1,l 4 1 3,g 5 132 [.t 4],f 6 1 1,s 1 6 5] [1,2] (.seq (z [f 7 3 1,l 8 1 7,u 9 .not 8] [1,2,9] (.cond (.t 9) (.ops [f 10 4 1,⟨none,none,.loud (.st 1),[.t 10,.c (.int .u32 0)]⟩] [1,2]) .skip)) (.seq (z [f 11 5 1,l 12 1 11,u 13 .not 12] [1,2,13] (.cond (.t 13) (.ops [f 14 6 1,⟨none,none,.loud (.st 1),[.t 14,.c (.int .u32 0)]⟩] [1,2]) .skip)) t74_15)))
def F74:Fn Tryz.prog 74:=Fn.mkX false b74 [.c 2 9 true] 22 Tryz.f74 _ Tryz.func74 (by decide) rfl Tryz.ntmps74 (by kernel_rfl) (by kernel_rfl)
end Go.Am.Tsc
namespace Go.Am
open Go.Proofs Go.Sort
def leI (a b:Int):Bool:=decide (a≤b)
def canonC (l:List Int):List Int:=ddA (l.mergeSort leI)
theorem z84 {L zs:List Int} (hp:L.Perm zs) (hs:L.Pairwise (· ≤ ·)):L=zs.mergeSort leI:=by
 have h1:(zs.mergeSort leI).Pairwise (· ≤ ·):=by
  have:=List.pairwise_mergeSort (le:=leI) (fun a b c h1 h2=>by simp only [leI,decide_eq_true_eq] at *;omega) (fun a b=>by simp only [leI,Bool.or_eq_true,decide_eq_true_eq];omega) zs
  exact this.imp fun {a b} h=>by simpa [leI] using h
 refine List.Perm.eq_of_pairwise (le:=(· ≤ ·)) (fun a b _ _ h1 h2=>by omega) hs h1 (hp.trans (List.mergeSort_perm zs leI).symm)
theorem z5r {L zs:List Int} (hp:L.Perm zs) (hs:L.Pairwise (· ≤ ·)):ddA L=canonC zs:=by rw [canonC,←z84 hp hs]
theorem z3w:∀ l:List Int,(ddA l).length≤l.length
 | []=>by simp [ddA]
 | [a]=>by simp [ddA]
 | a::b::r=>by
   have:=z3w (b::r)
   simp only [ddA]
   split <;> simp at * <;> omega
theorem x4 (l:List Int):(canonC l).length≤l.length:=by
 have:=z3w (l.mergeSort leI)
 rw [List.length_mergeSort] at this
 exact this
def canonA (a:At):At:={ a with med:=if a.hm then a.med else 0,prf:=if a.hp then a.prf else 0,cms:=canonC a.cms }
def At.cO (a:At) (v:AV):List AV:=[.int .i64 a.org,.sl 2 (a.path.map Seg.c),.int .u32 a.nxt,.bool a.hm,.int .u32 a.med,.bool a.hp,.int .u32 a.prf,.bool a.atm,v]
theorem ze7 (σ:Store):ACalls Tryz.prog 133 [.nils] σ (fun r s=>r = .nils∧s=σ):=by
 refine zk Tst.F133 (by simp [Tst.F133,Fn.mkX]) ?_
 simp only [Tst.F133,Fn.mkX,Tst.b133]
 simp only [↓vcPre,↓z0,↓reduceIte,vcPost,vcStd,Nat.reduceEqDiff,reduceCtorEq,Nat.reduceAdd,Nat.reduceLeDiff,Int.reduceLT,Int.reduceLE,↓u_setN]
 exact EndQ.to _ _ rfl (Store.sub_refl _) ⟨rfl,rfl⟩
theorem qe {σ τ:Store} {g:Nat} {o:Obj} (h:Store.sub σ τ):Store.sub (σ.set g o) (τ.set g o):=fun i q hi=>by
 simp only [Store.set] at hi ⊢
 split at hi
 ·rename_i e;rw [if_pos e];exact hi
 ·rename_i e;rw [if_neg e];exact h i q hi
theorem z57 (a:At) (hc:a.cms.length≤1000000) {σ t:Store} {b r:Nat} {z:List AV} {n rr:Env→Store→Prop} {x:Nat→Env→Store→Prop} (hb:t b=some (.box a.c)) (hr:t r=some (.box z)) (hz:z.length=9) (hbr:¬ b=r) (hsub:Store.sub σ t) (hσb:σ b=none) (hσr:σ r=none)
 (h0:∀ s,canonC a.cms=[]→Store.sub σ s→s r=some (.box (({ a with cms:=[] }:At).cO .nils))→rr [(2,.ptr r 0)] s)
 (h1:∀ s g,∀ M:List Int,σ g=none→(canonC a.cms).length≤M.length→M.take (canonC a.cms).length=canonC a.cms→Store.sub (σ.set g (.arr 1 (M.map cU))) s→s r=some (.box (({ a with cms:=[] }:At).cO (.os g 1 0 (canonC a.cms).length)))→rr [(2,.ptr r 0)] s) :
 bwp Tryz.prog Tsc.t74_15 [(1,.ptr b 0),(2,.ptr r 0)] t n rr x:=by
 simp only [Tsc.t74_15]
 have hrb:¬ r=b:=fun e=>hbr e.symm
 simp only [hb,At.c,↓vcPre,↓z0,↓reduceIte,vcPost,vcStd,Nat.reduceEqDiff,reduceCtorEq,Nat.reduceAdd,Nat.reduceLeDiff,Int.reduceLT,Int.reduceLE,↓u_setN]
 refine (zgg _ ⟨rfl,rfl⟩ t).Q ?_
 rintro f s ⟨i,hi,rfl,rfl⟩
 have hib:¬ b=i:=fun e=>by subst e;rw [hb] at hi;cases hi
 have hir:¬ r=i:=fun e=>by subst e;rw [hr] at hi;cases hi
 simp only [hib,hir,↓vcPre,↓z0,↓reduceIte,vcPost,vcStd,Nat.reduceEqDiff,reduceCtorEq,Nat.reduceAdd,Nat.reduceLeDiff,Int.reduceLT,Int.reduceLE,↓u_setN]
 refine (zgf (Store.set_same _ _ _) (zs:=a.cms) (by simp [slc]) (by omega)).Q ?_
 rintro f s (⟨hz0,rfl,rfl⟩ | ⟨hz0,g,L,hg,hp,hl,rfl,rfl⟩)
 ·simp only [hib,hir,↓vcPre,↓z0,↓reduceIte,vcPost,vcStd,Nat.reduceEqDiff,reduceCtorEq,Nat.reduceAdd,Nat.reduceLeDiff,Int.reduceLT,Int.reduceLE,↓u_setN]
  refine (ze7 _).Q ?_
  rintro f s ⟨rfl,rfl⟩
  simp only [hib,hir,hb,hr,hbr,hrb,At.c,hz,↓vcPre,↓z0,↓reduceIte,vcPost,vcStd,Nat.reduceEqDiff,reduceCtorEq,Nat.reduceAdd,Nat.reduceLeDiff,Int.reduceLT,Int.reduceLE,↓u_setN]
  rw [x7 _ _ (by simp [hz]),yf]
  refine h0 _ (by rw [hz0];simp [canonC,ddA]) (za (za (za hsub (zm hsub hi)) hσb) hσr) (Store.set_same _ _ _)
 ·have hgb:¬ b=g:=fun e=>by subst e;rw [Store.set_ne _ _ hib,hb] at hg;cases hg
  have hgr:¬ r=g:=fun e=>by subst e;rw [Store.set_ne _ _ hir,hr] at hg;cases hg
  simp only [hib,hir,↓vcPre,↓z0,↓reduceIte,vcPost,vcStd,Nat.reduceEqDiff,reduceCtorEq,Nat.reduceAdd,Nat.reduceLeDiff,Int.reduceLT,Int.reduceLE,↓u_setN]
  refine (zge (Store.set_same _ _ _) (by rw [hp.length_eq];omega)).Q ?_
  rintro f s ⟨M,m1,m2,m3,rfl,rfl⟩
  simp only [hib,hir,hb,hr,hbr,hrb,hgb,hgr,At.c,hz,↓vcPre,↓z0,↓reduceIte,vcPost,vcStd,Nat.reduceEqDiff,reduceCtorEq,Nat.reduceAdd,Nat.reduceLeDiff,Int.reduceLT,Int.reduceLE,↓u_setN]
  rw [x7 _ _ (by simp [hz]),yf]
  have hcn:=z5r hp hl
  have hσi:=zm hsub hi
  have hσg:σ g=none:=by
   cases h:σ g with
   | none=>rfl
   | some o=>rw [za hsub hσi g o h] at hg;cases hg
  rw [hcn] at m2 m3 ⊢
  refine h1 _ g M hσg (by omega) m2 ?_ (Store.set_same _ _ _)
  rw [Store.set_set]
  exact za (za (qe (za hsub hσi)) (by rw [Store.set_ne _ _ hgb];exact hσb)) (by rw [Store.set_ne _ _ hgr];exact hσr)
theorem s74 (a:At) (h:a.ok) (σ:Store):ACalls Tryz.prog 74 [.agg a.c] σ (fun r s=>(canonC a.cms=[]∧r = .agg ((canonA a).cO .nils)∧s=σ) ∨
 ∃ g,∃ M:List Int,σ g=none∧(canonC a.cms).length≤M.length∧M.take (canonC a.cms).length=canonC a.cms∧r = .agg ((canonA a).cO (.os g 1 0 (canonC a.cms).length))∧s=σ.set g (.arr 1 (M.map cU))):=by
 refine zk Tsc.F74 (by simp [Tsc.F74,Fn.mkX]) ?_
 simp only [Tsc.F74,Fn.mkX,Tsc.b74]
 simp only [At.c,↓vcPre,↓z0,↓reduceIte,vcPost,vcStd,Nat.reduceEqDiff,reduceCtorEq,Nat.reduceAdd,Nat.reduceLeDiff,Int.reduceLT,Int.reduceLE,↓u_setN]
 refine AllocQ.i0 fun b hb => ?_
 simp only [At.c,↓vcPre,↓z0,↓reduceIte,vcPost,vcStd,Nat.reduceEqDiff,reduceCtorEq,Nat.reduceAdd,Nat.reduceLeDiff,Int.reduceLT,Int.reduceLE,↓u_setN]
 refine AllocQ.i1 fun r hr1 hr2 hr => ?_
 simp only [hr1,hr2,↓vcPre,↓z0,↓reduceIte,vcPost,vcStd,Nat.reduceEqDiff,reduceCtorEq,Nat.reduceAdd,Nat.reduceLeDiff,Int.reduceLT,Int.reduceLE,↓u_setN]
 refine (zfm a.path h.1 h.2.1).Q ?_
 have hsb:∀ X Y Z:Obj,Store.sub σ (((σ.set b X).set r Y).set b Z):=fun X Y Z=>za (zp hb hr hr1) hb
 cases hm:a.hm <;> cases hp:a.hp
 all_goals
  simp only [hr1,hr2,Store.set_set,hm,hp,↓vcPre,↓z0,↓reduceIte,vcPost,vcStd,Nat.reduceEqDiff,reduceCtorEq,Nat.reduceAdd,Nat.reduceLeDiff,Int.reduceLT,Int.reduceLE,↓u_setN]
  refine z57 { a with med:=if a.hm then a.med else 0,prf:=if a.hp then a.prf else 0 } h.2.2 (by simp [At.c,hm,hp]) (by rw [Store.set_ne _ _ hr1,Store.set_same]) rfl hr2 (hsb _ _ _) hb hr ?_ ?_
  ·intro s hcz hss hsr
   refine EndQ.to σ (.agg ((canonA a).cO .nils)) ?_ hss (.inl ⟨hcz,rfl,rfl⟩)
   show Env.res [(2,AV.ptr r 0)] s [RS.c 2 9 true]=_
   simp only [hsr,At.cO,canonA,hm,hp,↓vcPre,↓z0,↓reduceIte,vcPost,vcStd,Nat.reduceEqDiff,reduceCtorEq,Nat.reduceAdd,Nat.reduceLeDiff,Int.reduceLT,Int.reduceLE,↓u_setN]
  ·intro s g M m1 m2 m3 m4 hsr
   refine EndQ.to (σ.set g (.arr 1 (M.map cU))) (.agg ((canonA a).cO (.os g 1 0 (canonC a.cms).length))) ?_ m4 (.inr ⟨g,M,m1,m2,m3,rfl,rfl⟩)
   show Env.res [(2,AV.ptr r 0)] s [RS.c 2 9 true]=_
   simp only [hsr,At.cO,canonA,hm,hp,↓vcPre,↓z0,↓reduceIte,vcPost,vcStd,Nat.reduceEqDiff,reduceCtorEq,Nat.reduceAdd,Nat.reduceLeDiff,Int.reduceLT,Int.reduceLE,↓u_setN]
theorem c74 (a:At) (h:a.ok):Pur Tryz.prog 74 [.agg a.c] (.agg (canonA a).c):=by
 intro σ
 refine (s74 a h σ).weakRes ?_
 rintro r s (⟨hz,rfl,rfl⟩ | ⟨g,M,m1,m2,m3,rfl,rfl⟩)
 ·refine Weak.agg (WeakL.nil 8 1 rfl (WeakL.pure ⟨?_,rfl,?_⟩))
  ·intro c hc
   simp [At.cO] at hc
   rcases hc with rfl | rfl | rfl | rfl | rfl | rfl | rfl | rfl | rfl <;> rfl
  ·simp [At.cO,At.c,canonA,hz]
 ·refine Weak.agg (WeakL.freeze 8 rfl (Store.set_same _ _ _) (by simpa using m2) (WeakL.forget (fun i o hi => ?_) (WeakL.pure ⟨?_,rfl,?_⟩)))
  ·have:i≠g:=fun e=>by subst e;rw [m1] at hi;cases hi
   rw [Store.del_ne _ this,Store.set_ne _ _ this];exact hi
  ·intro c hc
   simp [At.cO] at hc
   rcases hc with rfl | rfl | rfl | rfl | rfl | rfl | rfl | rfl | rfl <;> rfl
  ·simp only [At.cO,At.c,canonA,List.set_cons_succ,List.set_cons_zero,List.drop_zero,←List.map_take,m3]
end Go.Am
namespace Go.Am
open Go.Proofs Go.Sort
theorem zbi (x:Int):Pur Tryz.prog 183 [.int .i64 x] (.bool false):=by
 refine zn Tst.F183 (by simp [Tst.F183,Fn.mkX]) fun σ => ?_
 simp only [Tst.F183,Fn.mkX,Tst.b183]
 simp only [↓vcPre,↓z0,↓reduceIte,vcPost,vcStd,Nat.reduceEqDiff,reduceCtorEq,Nat.reduceAdd,Nat.reduceLeDiff,Int.reduceLT,Int.reduceLE,↓u_setN]
theorem z79 (x y:Int):Pur Tryz.prog 152 [.int .i64 x,.int .i64 y] (.int .i64 (cmpI x y)):=by
 refine zn Tst.F152 (by simp [Tst.F152,Fn.mkX]) fun σ => ?_
 simp only [Tst.F152,Fn.mkX,Tst.b152]
 simp only [↓vcPre,↓z0,↓reduceIte,vcPost,vcStd,Nat.reduceEqDiff,reduceCtorEq,Nat.reduceAdd,Nat.reduceLeDiff,Int.reduceLT,Int.reduceLE,↓u_setN]
 refine (zbi x).Q ?_
 simp only [↓vcPre,↓z0,↓reduceIte,vcPost,vcStd,Nat.reduceEqDiff,reduceCtorEq,Nat.reduceAdd,Nat.reduceLeDiff,Int.reduceLT,Int.reduceLE,↓u_setN]
 refine (zbi y).Q ?_
 simp only [↓vcPre,↓z0,↓reduceIte,vcPost,vcStd,Nat.reduceEqDiff,reduceCtorEq,Nat.reduceAdd,Nat.reduceLeDiff,Int.reduceLT,Int.reduceLE,↓u_setN]
 refine ⟨fun h1=>by simp [cmpI,h1],fun h1=>⟨fun h2=>by simp [cmpI,h1,h2],fun h2=>by simp [cmpI,h1,h2]⟩⟩
theorem z4g (x y:Int):Pur Tryz.prog 154 [.int .u32 x,.int .u32 y] (.int .i64 (cmpI x y)):=by
 refine zn Tst.F154 (by simp [Tst.F154,Fn.mkX]) fun σ => ?_
 simp only [Tst.F154,Fn.mkX,Tst.b154]
 simp only [↓vcPre,↓z0,↓reduceIte,vcPost,vcStd,Nat.reduceEqDiff,reduceCtorEq,Nat.reduceAdd,Nat.reduceLeDiff,Int.reduceLT,Int.reduceLE,↓u_setN]
 refine (z7a x).Q ?_
 simp only [↓vcPre,↓z0,↓reduceIte,vcPost,vcStd,Nat.reduceEqDiff,reduceCtorEq,Nat.reduceAdd,Nat.reduceLeDiff,Int.reduceLT,Int.reduceLE,↓u_setN]
 refine (z7a y).Q ?_
 simp only [↓vcPre,↓z0,↓reduceIte,vcPost,vcStd,Nat.reduceEqDiff,reduceCtorEq,Nat.reduceAdd,Nat.reduceLeDiff,Int.reduceLT,Int.reduceLE,↓u_setN]
 refine ⟨fun h1=>by simp [cmpI,h1],fun h1=>⟨fun h2=>by simp [cmpI,h1,h2],fun h2=>by simp [cmpI,h1,h2]⟩⟩
def truthF (b:Bool):Int:=if b then 1 else 0
theorem z18 (b:Bool):Pur Tryz.prog 155 [.bool b] (.int .i64 (truthF b)):=by
 refine zn Tst.F155 (by simp [Tst.F155,Fn.mkX]) fun σ => ?_
 simp only [Tst.F155,Fn.mkX,Tst.b155]
 cases b <;> simp only [↓vcPre,↓z0,↓reduceIte,vcPost,vcStd,Nat.reduceEqDiff,reduceCtorEq,Nat.reduceAdd,Nat.reduceLeDiff,Int.reduceLT,Int.reduceLE,↓u_setN] <;> rfl
def orL:List Int→Int
 | []=>0
 | x::r=>if x=0 then orL r else x
def cI (x:Int):List AV:=[.int .i64 x]
theorem zbw (xs:List Int) (hx:xs.length<1000) {σ:Store} {i:Nat} (hi:σ i=some (.arr 1 (xs.map cI))):ACalls Tryz.prog 151 [.os i 1 0 xs.length] σ (fun r s=>s=σ∧r = .int .i64 (orL xs)):=by
 refine zk Tst.F151 (by simp [Tst.F151,Fn.mkX]) ?_
 simp only [Tst.F151,Fn.mkX,Tst.b151]
 simp only [hi,↓vcPre,↓z0,↓reduceIte,vcPost,vcStd,Nat.reduceEqDiff,reduceCtorEq,Nat.reduceAdd,Nat.reduceLeDiff,Int.reduceLT,Int.reduceLE,↓u_setN]
 refine LoopQ.inv (S:=Nat) (fun k=>[(3,.int .i64 0),(6,.os i 1 0 xs.length),(7,.int .i64 (xs.length:Int)),(8,.int .i64 (k:Int))]) (fun _=>σ) (fun k=>k≤xs.length∧orL (xs.drop k)=orL xs) (fun k=>xs.length+1 - k) 0 rfl (Store.sub_refl _) ⟨by omega,rfl⟩ ?_
 rintro k ⟨hk,ho⟩
 simp only [hi,↓vcPre,↓z0,↓reduceIte,vcPost,vcStd,Nat.reduceEqDiff,reduceCtorEq,Nat.reduceAdd,Nat.reduceLeDiff,Int.reduceLT,Int.reduceLE,↓u_setN]
 refine ⟨fun c1 => ?_,fun c1 => ?_⟩
 ·have ek:IntKind.i64.wrap ((k:Int)+1)=((k+1:Nat):Int):=by rw [zd (by unfold I64;omega)];omega
  rw [List.drop_eq_getElem_cons c1] at ho
  simp only [orL] at ho
  simp only [Nat.zero_add]
  refine ⟨c1,c1,by simp [cI],?_⟩
  simp only [cI,Nat.zero_add,↓vcPre,↓z0,↓reduceIte,vcPost,vcStd,Nat.reduceEqDiff,reduceCtorEq,Nat.reduceAdd,Nat.reduceLeDiff,Int.reduceLT,Int.reduceLE,↓u_setN]
  refine ⟨fun g1 => ?_,fun g1 => ?_⟩
  ·rw [if_neg g1] at ho
   exact EndQ.to _ _ rfl (Store.sub_refl _) ⟨rfl,by rw [ho]⟩
  ·rw [if_pos g1] at ho
   rw [ek]
   exact NextQ.to (k+1) rfl (Store.sub_refl _) (by omega) ⟨by omega,ho⟩
 ·rw [List.drop_eq_nil_of_le (by omega)] at ho
  exact EndQ.to _ _ rfl (Store.sub_refl _) ⟨rfl,by rw [←ho];rfl⟩
def cmpG {α:Type} (f:α→α→Int):List α→List α→Int
 | [],[]=>0
 | [],_::_ => -1
 | _::_,[]=>1
 | a::r,b::s=>if f a b=0 then cmpG f r s else f a b
theorem zbg (l m:List Int) (hl:l.length≤1000000) (hm:m.length≤1000000):Pur Tryz.prog 156 [.sl 1 (l.map cU),.sl 1 (m.map cU)] (.int .i64 (cmpG cmpI l m)):=by
 refine zn Tst.F156 (by simp [Tst.F156,Fn.mkX]) fun σ => ?_
 simp only [Tst.F156,Fn.mkX,Tst.b156]
 simp only [↓vcPre,↓z0,↓reduceIte,vcPost,vcStd,Nat.reduceEqDiff,reduceCtorEq,Nat.reduceAdd,Nat.reduceLeDiff,Int.reduceLT,Int.reduceLE,↓u_setN]
 refine LoopQ.inv (S:=Nat) (fun k=>[(0,.sl 1 (l.map cU)),(1,.sl 1 (m.map cU)),(9,.sl 1 (l.map cU)),(10,.int .i64 (l.length:Int)),(11,.int .i64 (k:Int))]) (fun _=>σ) (fun k=>k≤l.length∧k≤m.length∧cmpG cmpI (l.drop k) (m.drop k)=cmpG cmpI l m) (fun k=>l.length+1 - k) 0 rfl (Store.sub_refl _) ⟨by omega,by omega,rfl⟩ ?_
 rintro k ⟨hk,hk2,ho⟩
 simp only [↓vcPre,↓z0,↓reduceIte,vcPost,vcStd,Nat.reduceEqDiff,reduceCtorEq,Nat.reduceAdd,Nat.reduceLeDiff,Int.reduceLT,Int.reduceLE,↓u_setN]
 refine ⟨fun c1 => ?_,fun c1 => ?_⟩
 ·have ek:IntKind.i64.wrap ((k:Int)+1)=((k+1:Nat):Int):=by rw [zd (by unfold I64;omega)];omega
  rw [List.drop_eq_getElem_cons c1] at ho
  refine ⟨c1,by simp [cU],?_⟩
  simp only [cU,↓vcPre,↓z0,↓reduceIte,vcPost,vcStd,Nat.reduceEqDiff,reduceCtorEq,Nat.reduceAdd,Nat.reduceLeDiff,Int.reduceLT,Int.reduceLE,↓u_setN]
  refine ⟨fun g1 => ?_,fun g1 => ?_⟩
  ·rw [show List.drop k m=[] from List.drop_eq_nil_of_le (by omega)] at ho
   rw [←ho];rfl
  ·rw [List.drop_eq_getElem_cons (l:=m) (by omega)] at ho
   simp only [cmpG] at ho
   refine ⟨by omega,?_⟩
   refine (z4g _ _).Q ?_
   simp only [↓vcPre,↓z0,↓reduceIte,vcPost,vcStd,Nat.reduceEqDiff,reduceCtorEq,Nat.reduceAdd,Nat.reduceLeDiff,Int.reduceLT,Int.reduceLE,↓u_setN]
   refine ⟨fun g2 => ?_,fun g2 => ?_⟩
   ·rw [if_neg g2] at ho
    rw [ho]
   ·rw [if_pos g2] at ho
    rw [ek]
    exact NextQ.to (k+1) rfl (Store.sub_refl _) (by omega) ⟨by omega,by omega,ho⟩
 ·rw [show List.drop k l=[] from List.drop_eq_nil_of_le (by omega)] at ho
  refine ⟨fun g1 => ?_,fun g1 => ?_⟩
  ·rw [List.drop_eq_getElem_cons (l:=m) (by omega)] at ho
   rw [←ho];rfl
  ·rw [show List.drop k m=[] from List.drop_eq_nil_of_le (by omega)] at ho
   rw [←ho];rfl
theorem zck {k:IntKind} {a b c:Int}:alv (.mksl 1 3) [.int k a,.int k b,.int k c]=some (.arr 1 [[.int k a],[.int k b],[.int k c]],fun id => .os id 1 0 3):=by rfl
theorem zcm {k:IntKind} {a b c d e f g h i:Int}:alv (.mksl 1 9) [.int k a,.int k b,.int k c,.int k d,.int k e,.int k f,.int k g,.int k h,.int k i]=some (.arr 1 [[.int k a],[.int k b],[.int k c],[.int k d],[.int k e],[.int k f],[.int k g],[.int k h],[.int k i]],fun id => .os id 1 0 9):=by rfl
def cmpSeg (a b:Seg):Int:=orL [cmpI a.kind b.kind,cmpI a.ls.length b.ls.length,cmpG cmpI a.ls b.ls]
theorem zfx (a b:Seg) (ha:a.ok) (hb:b.ok):Pur Tryz.prog 185 [.agg a.c,.agg b.c] (.int .i64 (cmpSeg a b)):=by
 refine zn Tst.F185 (by simp [Tst.F185,Fn.mkX]) fun σ => ?_
 simp only [Tst.F185,Fn.mkX,Tst.b185,Seg.c]
 simp only [↓vcPre,↓z0,↓reduceIte,vcPost,vcStd,Nat.reduceEqDiff,reduceCtorEq,Nat.reduceAdd,Nat.reduceLeDiff,Int.reduceLT,Int.reduceLE,↓u_setN]
 refine AllocQ.i0 fun i hi => ?_
 simp only [↓vcPre,↓z0,↓reduceIte,vcPost,vcStd,Nat.reduceEqDiff,reduceCtorEq,Nat.reduceAdd,Nat.reduceLeDiff,Int.reduceLT,Int.reduceLE,↓u_setN]
 refine AllocQ.i1 fun j hj1 hj2 hj => ?_
 simp only [*,↓vcPre,↓z0,↓reduceIte,vcPost,vcStd,Nat.reduceEqDiff,reduceCtorEq,Nat.reduceAdd,Nat.reduceLeDiff,Int.reduceLT,Int.reduceLE,↓u_setN]
 have hz:∀ n:Nat,n≤1000000→IntKind.i64.wrap (n:Int)=n:=fun n hn=>zd (by unfold I64;omega)
 refine (z79 _ _).Q ?_
 simp only [*,↓vcPre,↓z0,↓reduceIte,vcPost,vcStd,Nat.reduceEqDiff,reduceCtorEq,Nat.reduceAdd,Nat.reduceLeDiff,Int.reduceLT,Int.reduceLE,↓u_setN]
 refine (z79 _ _).Q ?_
 simp only [*,↓vcPre,↓z0,↓reduceIte,vcPost,vcStd,Nat.reduceEqDiff,reduceCtorEq,Nat.reduceAdd,Nat.reduceLeDiff,Int.reduceLT,Int.reduceLE,↓u_setN]
 refine (zbg _ _ ha hb).Q ?_
 simp only [zck,↓vcPre,↓z0,↓reduceIte,vcPost,vcStd,Nat.reduceEqDiff,reduceCtorEq,Nat.reduceAdd,Nat.reduceLeDiff,Int.reduceLT,Int.reduceLE,↓u_setN]
 refine AllocQ.i2 fun g hg1 hg2 hg3 hg4 hg => ?_
 simp only [↓vcPre,↓z0,↓reduceIte,vcPost,vcStd,Nat.reduceEqDiff,reduceCtorEq,Nat.reduceAdd,Nat.reduceLeDiff,Int.reduceLT,Int.reduceLE,↓u_setN]
 refine (zbw [cmpI a.kind b.kind,cmpI a.ls.length b.ls.length,cmpG cmpI a.ls b.ls] (by simp) (Store.set_same _ _ _)).Q ?_
 rintro r s ⟨h1,rfl⟩
 subst h1
 refine ⟨Store.sub_refl _,?_⟩
 simp only [↓vcPre,↓z0,↓reduceIte,vcPost,vcStd,Nat.reduceEqDiff,reduceCtorEq,Nat.reduceAdd,Nat.reduceLeDiff,Int.reduceLT,Int.reduceLE,↓u_setN]
 exact ⟨rfl,za (zp hi hj hj1) hg⟩
def cmpPath (a b:List Seg):Int:=cmpG cmpSeg a b
theorem zgl (l m:List Seg) (hl:l.length≤1000000) (hm:m.length≤1000000) (hlo:∀ s ∈ l,s.ok) (hmo:∀ s ∈ m,s.ok):Pur Tryz.prog 184 [.sl 2 (l.map Seg.c),.sl 2 (m.map Seg.c),.fn 185 []] (.int .i64 (cmpPath l m)):=by
 refine zn Tst.F184 (by simp [Tst.F184,Fn.mkX]) fun σ => ?_
 simp only [Tst.F184,Fn.mkX,Tst.b184]
 simp only [↓vcPre,↓z0,↓reduceIte,vcPost,vcStd,Nat.reduceEqDiff,reduceCtorEq,Nat.reduceAdd,Nat.reduceLeDiff,Int.reduceLT,Int.reduceLE,↓u_setN]
 refine LoopQ.inv (S:=Nat) (fun k=>[(0,.sl 2 (l.map Seg.c)),(1,.sl 2 (m.map Seg.c)),(2,.fn 185 []),(11,.sl 2 (l.map Seg.c)),(12,.int .i64 (l.length:Int)),(13,.int .i64 (k:Int))]) (fun _=>σ) (fun k=>k≤l.length∧k≤m.length∧cmpG cmpSeg (l.drop k) (m.drop k)=cmpG cmpSeg l m) (fun k=>l.length+1 - k) 0 rfl (Store.sub_refl _) ⟨by omega,by omega,rfl⟩ ?_
 rintro k ⟨hk,hk2,ho⟩
 simp only [↓vcPre,↓z0,↓reduceIte,vcPost,vcStd,Nat.reduceEqDiff,reduceCtorEq,Nat.reduceAdd,Nat.reduceLeDiff,Int.reduceLT,Int.reduceLE,↓u_setN]
 refine ⟨fun c1 => ?_,fun c1 => ?_⟩
 ·have ek:IntKind.i64.wrap ((k:Int)+1)=((k+1:Nat):Int):=by rw [zd (by unfold I64;omega)];omega
  rw [List.drop_eq_getElem_cons c1] at ho
  refine ⟨c1,by simp [Seg.c],?_⟩
  refine AllocQ.i0 fun i hi => ?_
  simp only [Seg.c,↓vcPre,↓z0,↓reduceIte,vcPost,vcStd,Nat.reduceEqDiff,reduceCtorEq,Nat.reduceAdd,Nat.reduceLeDiff,Int.reduceLT,Int.reduceLE,↓u_setN]
  refine ⟨fun g1 => ?_,fun g1 => ?_⟩
  ·rw [show List.drop k m=[] from List.drop_eq_nil_of_le (by omega)] at ho
   exact ⟨by rw [cmpPath,←ho];rfl,by rw [Store.set_set];exact Store.sub_set _ _ _ hi⟩
  ·rw [List.drop_eq_getElem_cons (l:=m) (by omega)] at ho
   simp only [cmpG] at ho
   rw [Store.set_set]
   refine ⟨by omega,?_⟩
   refine AllocQ.i1 fun j hj1 hj2 hj => ?_
   simp only [Seg.c,Store.set_set,hj1,hj2,↓vcPre,↓z0,↓reduceIte,vcPost,vcStd,Nat.reduceEqDiff,reduceCtorEq,Nat.reduceAdd,Nat.reduceLeDiff,Int.reduceLT,Int.reduceLE,↓u_setN]
   refine (zfx _ _ (hlo _ (List.getElem_mem c1)) (hmo _ (List.getElem_mem (by omega)))).Q ?_
   simp only [↓vcPre,↓z0,↓reduceIte,vcPost,vcStd,Nat.reduceEqDiff,reduceCtorEq,Nat.reduceAdd,Nat.reduceLeDiff,Int.reduceLT,Int.reduceLE,↓u_setN]
   refine ⟨fun g2 => ?_,fun g2 => ?_⟩
   ·rw [if_neg g2] at ho
    exact ⟨by rw [cmpPath,←ho],zp hi hj hj1⟩
   ·rw [if_pos g2] at ho
    rw [ek]
    exact NextQ.to (k+1) rfl (zp hi hj hj1) (by omega) ⟨by omega,by omega,ho⟩
 ·rw [show List.drop k l=[] from List.drop_eq_nil_of_le (by omega)] at ho
  refine ⟨fun g1 => ?_,fun g1 => ?_⟩
  ·rw [List.drop_eq_getElem_cons (l:=m) (by omega)] at ho
   rw [cmpPath,←ho];rfl
  ·rw [show List.drop k m=[] from List.drop_eq_nil_of_le (by omega)] at ho
   rw [cmpPath,←ho];rfl
theorem zfr (l m:List Seg) (hl:l.length≤1000000) (hm:m.length≤1000000) (hlo:∀ s ∈ l,s.ok) (hmo:∀ s ∈ m,s.ok):Pur Tryz.prog 153 [.sl 2 (l.map Seg.c),.sl 2 (m.map Seg.c)] (.int .i64 (cmpPath l m)):=by
 refine zn Tst.F153 (by simp [Tst.F153,Fn.mkX]) fun σ => ?_
 simp only [Tst.F153,Fn.mkX,Tst.b153]
 simp only [↓vcPre,↓z0,↓reduceIte,vcPost,vcStd,Nat.reduceEqDiff,reduceCtorEq,Nat.reduceAdd,Nat.reduceLeDiff,Int.reduceLT,Int.reduceLE,↓u_setN]
 refine (zgl l m hl hm hlo hmo).Q ?_
 simp only [↓vcPre,↓z0,↓reduceIte,vcPost,vcStd,Nat.reduceEqDiff,reduceCtorEq,Nat.reduceAdd,Nat.reduceLeDiff,Int.reduceLT,Int.reduceLE,↓u_setN]
def cmpAs (a b:At):Int:=orL [cmpI a.org b.org,cmpPath a.path b.path,cmpI a.nxt b.nxt,IntKind.i64.wrap (truthF a.hm - truthF b.hm),cmpI a.med b.med,IntKind.i64.wrap (truthF a.hp - truthF b.hp),cmpI a.prf b.prf,IntKind.i64.wrap (truthF a.atm - truthF b.atm),cmpG cmpI a.cms b.cms]
theorem y6 {a:At} (h:a.ok):(canonA a).ok:=⟨h.1,h.2.1,Nat.le_trans (x4 _) h.2.2⟩
set_option maxRecDepth 20000 in
theorem c90 (a b:At) (ha:a.ok) (hb:b.ok):Pur Tryz.prog 90 [.agg a.c,.agg b.c] (.int .i64 (cmpAs (canonA a) (canonA b))):=by
 refine zn Tst.F90 (by simp [Tst.F90,Fn.mkX]) fun σ => ?_
 simp only [Tst.F90,Fn.mkX,Tst.b90]
 simp only [↓vcPre,↓z0,↓reduceIte,vcPost,vcStd,Nat.reduceEqDiff,reduceCtorEq,Nat.reduceAdd,Nat.reduceLeDiff,Int.reduceLT,Int.reduceLE,↓u_setN]
 have e9:∀ x:At,x.c.length=9:=fun _=>rfl
 have t9:∀ x:At,List.take 9 x.c=x.c:=fun _=>rfl
 have p9:∀ x y:At,splice 0 x.c y.c=some x.c:=fun x y=>x7 _ _ rfl
 refine AllocQ.i0 fun i hi => ?_
 simp only [↓vcPre,↓z0,↓reduceIte,vcPost,vcStd,Nat.reduceEqDiff,reduceCtorEq,Nat.reduceAdd,Nat.reduceLeDiff,Int.reduceLT,Int.reduceLE,↓u_setN]
 refine AllocQ.i1 fun j hj1 hj2 hj => ?_
 simp only [hj1,hj2,e9,t9,p9,Nat.le_refl,↓vcPre,↓z0,↓reduceIte,vcPost,vcStd,Nat.reduceEqDiff,reduceCtorEq,Nat.reduceAdd,Nat.reduceLeDiff,Int.reduceLT,Int.reduceLE,↓u_setN]
 refine (c74 a ha).Q ?_
 simp only [hj1,hj2,e9,t9,p9,Nat.le_refl,↓vcPre,↓z0,↓reduceIte,vcPost,vcStd,Nat.reduceEqDiff,reduceCtorEq,Nat.reduceAdd,Nat.reduceLeDiff,Int.reduceLT,Int.reduceLE,↓u_setN]
 refine (c74 b hb).Q ?_
 simp only [hj1,hj2,e9,t9,p9,Nat.le_refl,Store.set_set,↓vcPre,↓z0,↓reduceIte,vcPost,vcStd,Nat.reduceEqDiff,reduceCtorEq,Nat.reduceAdd,Nat.reduceLeDiff,Int.reduceLT,Int.reduceLE,↓u_setN]
 have hsub:Store.sub σ ((((σ.set i (Obj.box a.c)).set j (Obj.box b.c)).set i (Obj.box (canonA a).c)).set j (Obj.box (canonA b).c)):=za (za (zp hi hj hj1) hi) hj
 generalize ((((σ.set i (Obj.box a.c)).set j (Obj.box b.c)).set i (Obj.box (canonA a).c)).set j (Obj.box (canonA b).c))=T at hsub ⊢
 have ha1:=y6 ha
 have hb1:=y6 hb
 generalize canonA a=a1 at ha1 ⊢
 generalize canonA b=b1 at hb1 ⊢
 clear e9 t9 p9
 simp only [At.c,↓vcPre,↓z0,↓reduceIte,vcPost,vcStd,Nat.reduceEqDiff,reduceCtorEq,Nat.reduceAdd,Nat.reduceLeDiff,Int.reduceLT,Int.reduceLE,↓u_setN]
 refine (z79 _ _).Q ?_
 simp only [↓vcPre,↓z0,↓reduceIte,vcPost,vcStd,Nat.reduceEqDiff,reduceCtorEq,Nat.reduceAdd,Nat.reduceLeDiff,Int.reduceLT,Int.reduceLE,↓u_setN]
 refine (zfr _ _ ha1.1 hb1.1 ha1.2.1 hb1.2.1).Q ?_
 simp only [↓vcPre,↓z0,↓reduceIte,vcPost,vcStd,Nat.reduceEqDiff,reduceCtorEq,Nat.reduceAdd,Nat.reduceLeDiff,Int.reduceLT,Int.reduceLE,↓u_setN]
 refine (z4g _ _).Q ?_
 simp only [↓vcPre,↓z0,↓reduceIte,vcPost,vcStd,Nat.reduceEqDiff,reduceCtorEq,Nat.reduceAdd,Nat.reduceLeDiff,Int.reduceLT,Int.reduceLE,↓u_setN]
 refine (z18 _).Q ?_
 simp only [↓vcPre,↓z0,↓reduceIte,vcPost,vcStd,Nat.reduceEqDiff,reduceCtorEq,Nat.reduceAdd,Nat.reduceLeDiff,Int.reduceLT,Int.reduceLE,↓u_setN]
 refine (z18 _).Q ?_
 simp only [↓vcPre,↓z0,↓reduceIte,vcPost,vcStd,Nat.reduceEqDiff,reduceCtorEq,Nat.reduceAdd,Nat.reduceLeDiff,Int.reduceLT,Int.reduceLE,↓u_setN]
 refine (z4g _ _).Q ?_
 simp only [↓vcPre,↓z0,↓reduceIte,vcPost,vcStd,Nat.reduceEqDiff,reduceCtorEq,Nat.reduceAdd,Nat.reduceLeDiff,Int.reduceLT,Int.reduceLE,↓u_setN]
 refine (z18 _).Q ?_
 simp only [↓vcPre,↓z0,↓reduceIte,vcPost,vcStd,Nat.reduceEqDiff,reduceCtorEq,Nat.reduceAdd,Nat.reduceLeDiff,Int.reduceLT,Int.reduceLE,↓u_setN]
 refine (z18 _).Q ?_
 simp only [↓vcPre,↓z0,↓reduceIte,vcPost,vcStd,Nat.reduceEqDiff,reduceCtorEq,Nat.reduceAdd,Nat.reduceLeDiff,Int.reduceLT,Int.reduceLE,↓u_setN]
 refine (z4g _ _).Q ?_
 simp only [↓vcPre,↓z0,↓reduceIte,vcPost,vcStd,Nat.reduceEqDiff,reduceCtorEq,Nat.reduceAdd,Nat.reduceLeDiff,Int.reduceLT,Int.reduceLE,↓u_setN]
 refine (z18 _).Q ?_
 simp only [↓vcPre,↓z0,↓reduceIte,vcPost,vcStd,Nat.reduceEqDiff,reduceCtorEq,Nat.reduceAdd,Nat.reduceLeDiff,Int.reduceLT,Int.reduceLE,↓u_setN]
 refine (z18 _).Q ?_
 simp only [↓vcPre,↓z0,↓reduceIte,vcPost,vcStd,Nat.reduceEqDiff,reduceCtorEq,Nat.reduceAdd,Nat.reduceLeDiff,Int.reduceLT,Int.reduceLE,↓u_setN]
 refine (zbg _ _ ha1.2.2 hb1.2.2).Q ?_
 simp only [zcm,↓vcPre,↓z0,↓reduceIte,vcPost,vcStd,Nat.reduceEqDiff,reduceCtorEq,Nat.reduceAdd,Nat.reduceLeDiff,Int.reduceLT,Int.reduceLE,↓u_setN]
 refine AllocQ.i0 fun g hg => ?_
 simp only [↓vcPre,↓z0,↓reduceIte,vcPost,vcStd,Nat.reduceEqDiff,reduceCtorEq,Nat.reduceAdd,Nat.reduceLeDiff,Int.reduceLT,Int.reduceLE,↓u_setN]
 refine (zbw [cmpI a1.org b1.org,cmpPath a1.path b1.path,cmpI a1.nxt b1.nxt,IntKind.i64.wrap (truthF a1.hm - truthF b1.hm),cmpI a1.med b1.med,IntKind.i64.wrap (truthF a1.hp - truthF b1.hp),cmpI a1.prf b1.prf,IntKind.i64.wrap (truthF a1.atm - truthF b1.atm),cmpG cmpI a1.cms b1.cms] (by simp) (Store.set_same _ _ _)).Q ?_
 rintro r s ⟨h1,rfl⟩
 subst h1
 refine ⟨Store.sub_refl _,?_⟩
 simp only [↓vcPre,↓z0,↓reduceIte,vcPost,vcStd,Nat.reduceEqDiff,reduceCtorEq,Nat.reduceAdd,Nat.reduceLeDiff,Int.reduceLT,Int.reduceLE,↓u_setN]
 exact ⟨rfl,za hsub (zm hsub hg)⟩
theorem c44 (a b:At) (ha:a.ok) (hb:b.ok):Pur Tryz.prog 44 [.agg a.c,.agg b.c] (.bool (decide (cmpAs (canonA a) (canonA b)=0))):=by
 refine zn Tst.F44 (by simp [Tst.F44,Fn.mkX]) fun σ => ?_
 simp only [Tst.F44,Fn.mkX,Tst.b44]
 simp only [↓vcPre,↓z0,↓reduceIte,vcPost,vcStd,Nat.reduceEqDiff,reduceCtorEq,Nat.reduceAdd,Nat.reduceLeDiff,Int.reduceLT,Int.reduceLE,↓u_setN]
 have t9:∀ x:At,List.take 9 x.c=x.c:=fun _=>rfl
 have e9:∀ x:At,x.c.length=9:=fun _=>rfl
 refine AllocQ.i0 fun i hi => ?_
 simp only [↓vcPre,↓z0,↓reduceIte,vcPost,vcStd,Nat.reduceEqDiff,reduceCtorEq,Nat.reduceAdd,Nat.reduceLeDiff,Int.reduceLT,Int.reduceLE,↓u_setN]
 refine AllocQ.i1 fun j hj1 hj2 hj => ?_
 simp only [hj1,hj2,e9,t9,Nat.le_refl,↓vcPre,↓z0,↓reduceIte,vcPost,vcStd,Nat.reduceEqDiff,reduceCtorEq,Nat.reduceAdd,Nat.reduceLeDiff,Int.reduceLT,Int.reduceLE,↓u_setN]
 refine (c90 a b ha hb).Q ?_
 simp only [↓vcPre,↓z0,↓reduceIte,vcPost,vcStd,Nat.reduceEqDiff,reduceCtorEq,Nat.reduceAdd,Nat.reduceLeDiff,Int.reduceLT,Int.reduceLE,↓u_setN]
 exact zp hi hj hj1
end Go.Am
namespace Go.Am
open Go.Proofs Go.Sort
theorem cmpI_z {x y:Int}:cmpI x y=0↔x=y:=y7 x y
theorem z0k {α:Type} {f:α→α→Int}:∀ (l m:List α),(∀ a ∈ l,∀ b ∈ m,f a b=0↔a=b)→(cmpG f l m=0↔l=m)
 | [],[],_=>by simp [cmpG]
 | [],_::_,_=>by simp [cmpG]
 | _::_,[],_=>by simp [cmpG]
 | a::r,b::s,h=>by
   have h1:=h a (by simp) b (by simp)
   have h2:=z0k r s (fun x hx y hy=>h x (by simp [hx]) y (by simp [hy]))
   simp only [cmpG]
   split
   ·rename_i h0
    rw [h2,h1.1 h0];simp
   ·rename_i h0
    constructor
    ·intro h3;exact absurd h3 h0
    ·intro h3;exact absurd (h1.2 (List.cons.inj h3).1) h0
theorem z50:∀ (l:List Int),orL l=0↔∀ x ∈ l,x=0
 | []=>by simp [orL]
 | x::r=>by
   have:=z50 r
   simp only [orL]
   split
   ·rename_i h;rw [this];simp [h]
   ·rename_i h;simp [h]
theorem z2c {a b:Seg}:cmpSeg a b=0↔a=b:=by
 unfold cmpSeg
 rw [z50]
 simp only [List.mem_cons,List.not_mem_nil,or_false,forall_eq_or_imp,forall_eq]
 rw [cmpI_z,cmpI_z,z0k _ _ (fun _ _ _ _=>cmpI_z)]
 constructor
 ·rintro ⟨h1,_,h3⟩
  cases a;cases b;simp_all
 ·rintro rfl;exact ⟨rfl,rfl,rfl⟩
theorem cmpPath_z {a b:List Seg}:cmpPath a b=0↔a=b:=z0k _ _ fun _ _ _ _=>z2c
theorem yq {a b:Bool}:IntKind.i64.wrap (truthF a - truthF b)=0↔a=b:=by
 cases a <;> cases b <;> decide
theorem z3u {a b:At}:cmpAs a b=0↔a=b:=by
 unfold cmpAs
 rw [z50]
 simp only [List.mem_cons,List.not_mem_nil,or_false,forall_eq_or_imp,forall_eq]
 rw [cmpI_z,cmpPath_z,cmpI_z,yq,cmpI_z,yq,cmpI_z,yq,z0k _ _ (fun _ _ _ _=>cmpI_z)]
 constructor
 ·rintro ⟨h1,h2,h3,h4,h5,h6,h7,h8,h9⟩
  cases a;cases b;simp_all
 ·rintro rfl;exact ⟨rfl,rfl,rfl,rfl,rfl,rfl,rfl,rfl,rfl⟩
instance:DecidableEq Seg:=fun a b=>decidable_of_iff (cmpSeg a b=0) z2c
instance:DecidableEq At:=fun a b=>decidable_of_iff (cmpAs a b=0) z3u
def Inc (l:List Int):Prop:=l.Pairwise (· < ·)
theorem z19 (x:Int):∀ l:List Int,x ∈ ddA l↔x ∈ l
 | []=>by simp [ddA]
 | [a]=>by simp [ddA]
 | a::b::r=>by
   have:=z19 x (b::r)
   simp only [ddA]
   split
   ·rename_i h;subst h;rw [this];simp
   ·simp only [List.mem_cons] at *;rw [this]
theorem z3v:∀ l:List Int,l.Pairwise (· ≤ ·)→Inc (ddA l)
 | [],_ => .nil
 | [a],_=>by simp [ddA,Inc]
 | a::b::r,h=>by
   obtain ⟨h1,h2⟩:=List.pairwise_cons.1 h
   have ih:=z3v (b::r) h2
   simp only [ddA]
   split
   ·exact ih
   ·rename_i hab
    refine List.pairwise_cons.2 ⟨fun x hx => ?_,ih⟩
    have hx':=(z19 x (b::r)).1 hx
    have h3:=h1 b (by simp)
    rcases List.mem_cons.1 hx' with rfl | hx''
    ·omega
    ·have h4:=(List.pairwise_cons.1 h2).1 x hx''
     omega
theorem wn {l:List Int} {x:Int}:x ∈ canonC l↔x ∈ l:=by
 rw [canonC,z19,(List.mergeSort_perm l leI).mem_iff]
theorem wm (l:List Int):Inc (canonC l):=z3v _ (by
 have:=List.pairwise_mergeSort (le:=leI) (fun a b c h1 h2=>by simp only [leI,decide_eq_true_eq] at *;omega) (fun a b=>by simp only [leI,Bool.or_eq_true,decide_eq_true_eq];omega) l
 exact this.imp fun {a b} h=>by simpa [leI] using h)
theorem ql {l m:List Int} (hl:Inc l) (hm:Inc m) (h:∀ x,x ∈ l↔x ∈ m):l=m:=by
 have nd:∀ l:List Int,Inc l→l.Nodup:=fun l h=>h.imp fun {a b} h e=>by omega
 refine List.Perm.eq_of_pairwise (le:=(· < ·)) (fun a b _ _ h1 h2=>by omega) hl hm ((List.perm_ext_iff_of_nodup (nd l hl) (nd m hm)).2 h)
theorem vz {l:List Int} (h:Inc l):canonC l=l:=ql (wm l) h fun x=>wn
end Go.Am
namespace Go.Am
theorem z0g (s:Store) (i:Nat):Store.sub (s.del i) s:=fun j o hj=>by
 by_cases e:j=i
 ·subst e;simp at hj
 ·rw [Store.del_ne _ e] at hj;exact hj
end Go.Am
namespace Go.Am
open Go.Proofs Go.Sort
def zCells:List AV:=[.int .i64 0,.nils,.int .u32 0,.bool false,.int .u32 0,.bool false,.int .u32 0,.bool false,.nils]
def zeroAt:At:=⟨0,[],0,false,0,false,0,false,[]⟩
theorem vg {σ:Store} {Q:AV→Store→Prop} (h:Q (.agg zeroAt.c) σ):Weak (.agg zCells) σ Q:=by
 refine Weak.agg (WeakL.nil 1 2 rfl (WeakL.nil 8 1 rfl (WeakL.pure ⟨?_,h⟩)))
 intro c hc
 simp [zCells] at hc
 rcases hc with rfl | rfl | rfl | rfl | rfl | rfl | rfl | rfl | rfl <;> rfl
end Go.Am
namespace Go.Am
open Go.Proofs Go.Sort
theorem c22 (n lo hi:Int) (h1:I64 n) (h2:0≤lo) (h3:lo≤hi) (h4:hi<4294967296):Pur Tryz.prog 22 [.int .i64 n,.int .i64 lo,.int .i64 hi] (.int .i64 (lo+(n % (hi - lo+1)))):=by
 refine zn Tst.F22 (by simp [Tst.F22,Fn.mkX]) fun σ => ?_
 simp only [Tst.F22,Fn.mkX,Tst.b22]
 simp only [↓vcPre,↓z0,↓reduceIte,vcPost,vcStd,Nat.reduceEqDiff,reduceCtorEq,Nat.reduceAdd,Nat.reduceLeDiff,Int.reduceLT,Int.reduceLE,↓u_setN]
 have w:∀ {x:Int},-9223372036854775808≤x→x≤9223372036854775807→IntKind.i64.wrap x=x:=fun a b=>zd ⟨a,b⟩
 rw [w (x:=hi - lo) (by omega) (by omega),w (x:=hi - lo+1) (by omega) (by omega)]
 have hm:0<hi - lo+1:=by omega
 generalize hd:hi - lo+1=d at *
 have he:n % d=if n.tmod d<0 then n.tmod d+d else n.tmod d:=by
  rw [Int.tmod_eq_emod]
  have:=Int.emod_nonneg n (b:=d) (by omega)
  have:=Int.emod_lt_of_pos n (b:=d) (by omega)
  split <;> split <;> omega
 have b1:=Int.emod_nonneg n (b:=d) (by omega)
 have b2:=Int.emod_lt_of_pos n (b:=d) (by omega)
 refine ⟨by omega,fun hn => ?_,fun hn => ?_⟩
 ·rw [if_pos hn] at he
  rw [w (x:=n.tmod d+hi) (by omega) (by omega),w (x:=n.tmod d+hi - lo) (by omega) (by omega),w (x:=n.tmod d+hi - lo+1) (by omega) (by omega),w (by omega) (by omega)];omega
 ·rw [if_neg hn] at he
  rw [w (by omega) (by omega)];omega
end Go.Am
namespace Go.Am
open Go.Proofs Go.Sort
theorem zbc (n:Int) (h:I64 n):Pur Tryz.prog 128 [.int .i64 n] (.int .u32 (maskF n)):=by
 refine zn Tst.F128 (by simp [Tst.F128,Fn.mkX]) fun σ => ?_
 simp only [Tst.F128,Fn.mkX,Tst.b128]
 simp only [↓vcPre,↓z0,↓reduceIte,vcPost,vcStd,Nat.reduceEqDiff,reduceCtorEq,Nat.reduceAdd,Nat.reduceLeDiff,Int.reduceLT,Int.reduceLE,↓u_setN]
 refine ⟨fun h1=>by simp [maskF,h1],fun h1 => ?_⟩
 have e:IntKind.i64.wrap (32 - if 32<n then 32 else n)=32 - min n 32:=by
  rw [zd (by unfold I64;split <;> omega)];split <;> omega
 rw [e]
 exact ⟨by omega,by simp [maskF,h1]⟩
theorem c71 (a n:Int):Pur Tryz.prog 71 [.agg [.int .u32 a,.int .i64 n]] (.bool (rightF a n)):=by
 refine zn Tst.F71 (by simp [Tst.F71,Fn.mkX]) fun σ => ?_
 simp only [Tst.F71,Fn.mkX,Tst.b71]
 simp only [↓vcPre,↓z0,↓reduceIte,vcPost,vcStd,Nat.reduceEqDiff,reduceCtorEq,Nat.reduceAdd,Nat.reduceLeDiff,Int.reduceLT,Int.reduceLE,↓u_setN]
 refine AllocQ.i0 fun i hi => ?_
 simp only [*,↓vcPre,↓z0,↓reduceIte,vcPost,vcStd,Nat.reduceEqDiff,reduceCtorEq,Nat.reduceAdd,Nat.reduceLeDiff,Int.reduceLT,Int.reduceLE,↓u_setN]
 refine ⟨fun h1=>⟨fun h2=>(zbc n (by unfold I64;omega)).Q ?_,fun h2=>by simp [rightF,h2]⟩,fun h2=>by simp [rightF,h2]⟩
 simp only [*,↓vcPre,↓z0,↓reduceIte,vcPost,vcStd,Nat.reduceEqDiff,reduceCtorEq,Nat.reduceAdd,Nat.reduceLeDiff,Int.reduceLT,Int.reduceLE,↓u_setN]
 simp [rightF,h1,h2]
theorem c91 (n:Int) (h:I64 n):Pur Tryz.prog 91 [.int .i64 n] (.int .u32 (maskF n)):=by
 refine zn Tst.F91 (by simp [Tst.F91,Fn.mkX]) fun σ => ?_
 simp only [Tst.F91,Fn.mkX,Tst.b91]
 simp only [↓vcPre,↓z0,↓reduceIte,vcPost,vcStd,Nat.reduceEqDiff,reduceCtorEq,Nat.reduceAdd,Nat.reduceLeDiff,Int.reduceLT,Int.reduceLE,↓u_setN]
 refine LoopQ.inv (S:=Nat) (fun i=>[(0,.int .i64 n),(3,.int .u32 (maskF i)),(4,.int .i64 i)]) (fun _=>σ) (fun i=>(i:Int)≤max n 0∧i≤32) (fun i=>33 - i) 0 rfl (Store.sub_refl _) ⟨by omega,by omega⟩ ?_
 intro i hi
 simp only [↓vcPre,↓z0,↓reduceIte,vcPost,vcStd,Nat.reduceEqDiff,reduceCtorEq,Nat.reduceAdd,Nat.reduceLeDiff,Int.reduceLT,Int.reduceLE,↓u_setN]
 have w:IntKind.i64.wrap (31 - ↑i)=31 - (i:Int):=zd ⟨by omega,by omega⟩
 have w1:IntKind.i64.wrap (↑i+1)=(i:Int)+1:=zd ⟨by omega,by omega⟩
 refine ⟨fun h1=>⟨fun h2 => ?_,fun h2 => ?_⟩,fun h1 => ?_⟩
 ·have w2:IntKind.u64.wrap (31 - ↑i)=31 - (i:Int):=by simp [IntKind.wrap,IntKind.bits,IntKind.signed];omega
  rw [w,w1,w2]
  refine ⟨by omega,NextQ.to (i+1) ?_ (Store.sub_refl _) (by omega) ⟨by omega,by omega⟩⟩
  have:=z60 ⟨i,by omega⟩
  simp only at this
  simp only [this,Int.natCast_add,Int.cast_ofNat_Int]
 ·rw [z09 (n:=i) (by omega),z09 (n:=n) (by omega)]
 ·by_cases h0:n≤0
  ·rw [z0a (n:=i) (by omega),z0a h0]
  ·rw [show (i:Int)=n by omega]
theorem c80 (a n:Int):Pur Tryz.prog 80 [.agg [.int .u32 a,.int .i64 n]] (.bool (rightF a n)):=by
 refine zn Tst.F80 (by simp [Tst.F80,Fn.mkX]) fun σ => ?_
 simp only [Tst.F80,Fn.mkX,Tst.b80]
 simp only [↓vcPre,↓z0,↓reduceIte,vcPost,vcStd,Nat.reduceEqDiff,reduceCtorEq,Nat.reduceAdd,Nat.reduceLeDiff,Int.reduceLT,Int.reduceLE,↓u_setN]
 refine AllocQ.i0 fun i hi => ?_
 simp only [*,↓vcPre,↓z0,↓reduceIte,vcPost,vcStd,Nat.reduceEqDiff,reduceCtorEq,Nat.reduceAdd,Nat.reduceLeDiff,Int.reduceLT,Int.reduceLE,↓u_setN]
 refine ⟨fun h1=>⟨fun h2=>(c91 n (by unfold I64;omega)).Q ?_,fun h2=>by simp [rightF,h2]⟩,fun h2=>by simp [rightF,h2]⟩
 simp only [*,↓vcPre,↓z0,↓reduceIte,vcPost,vcStd,Nat.reduceEqDiff,reduceCtorEq,Nat.reduceAdd,Nat.reduceLeDiff,Int.reduceLT,Int.reduceLE,↓u_setN]
 simp [rightF,h1,h2]
theorem c45 (a n:Int) (h:I64 n):Pur Tryz.prog 45 [.int .u32 a,.int .i64 n] (.agg [.int .u32 (ofF a n).1,.int .i64 (ofF a n).2]):=by
 refine zn Tst.F45 (by simp [Tst.F45,Fn.mkX]) fun σ => ?_
 simp only [Tst.F45,Fn.mkX,Tst.b45]
 simp only [↓vcPre,↓z0,↓reduceIte,vcPost,vcStd,Nat.reduceEqDiff,reduceCtorEq,Nat.reduceAdd,Nat.reduceLeDiff,Int.reduceLT,Int.reduceLE,↓u_setN]
 refine AllocQ.i0 fun i hi => ?_
 simp only [*,↓vcPre,↓z0,↓reduceIte,vcPost,vcStd,Nat.reduceEqDiff,reduceCtorEq,Nat.reduceAdd,Nat.reduceLeDiff,Int.reduceLT,Int.reduceLE,↓u_setN]
 have e0:max (min n 32) 0=if n<0 then 0 else if 32<n then 32 else n:=by split <;> (try split) <;> omega
 refine ⟨fun h1=>(c91 0 (by unfold I64;omega)).Q ?_,fun h1=>⟨fun h2=>(c91 32 (by unfold I64;omega)).Q ?_,fun h2=>(c91 n h).Q ?_⟩⟩
 ·simp only [*,↓vcPre,↓z0,↓reduceIte,vcPost,vcStd,Nat.reduceEqDiff,reduceCtorEq,Nat.reduceAdd,Nat.reduceLeDiff,Int.reduceLT,Int.reduceLE,↓u_setN]
  simp [ofF,e0,h1]
 ·simp only [*,↓vcPre,↓z0,↓reduceIte,vcPost,vcStd,Nat.reduceEqDiff,reduceCtorEq,Nat.reduceAdd,Nat.reduceLeDiff,Int.reduceLT,Int.reduceLE,↓u_setN]
  simp [ofF,e0,h1,h2]
 ·simp only [*,↓vcPre,↓z0,↓reduceIte,vcPost,vcStd,Nat.reduceEqDiff,reduceCtorEq,Nat.reduceAdd,Nat.reduceLeDiff,Int.reduceLT,Int.reduceLE,↓u_setN]
  simp [ofF,e0,h1,h2]
theorem z2l (n:Int):maskF (max (min n 32) 0)=maskF n:=by
 by_cases h:n≤0
 ·rw [z0a h,show max (min n 32) 0=0 by omega]
 ·by_cases h2:32≤n
  ·rw [z09 h2,show max (min n 32) 0=32 by omega]
  ·rw [show max (min n 32) 0=n by omega]
def pxC (x:Int×Int):List AV:=[.int .u32 x.1,.int .i64 x.2]
end Go.Am
namespace Go.Am
open Go.Proofs Go.Sort
def hasF (a n x:Int):Bool:=rightF a n && decide (bitInt .and .u32 x (maskF n)=a)
def coversF (p q:Int×Int):Bool:=rightF q.1 q.2 && (hasF p.1 p.2 q.1 && decide (p.2≤q.2))
theorem z0x {a n:Int} (h:rightF a n=true):I64 n:=by
 unfold rightF at h
 simp only [Bool.and_eq_true,decide_eq_true_eq] at h
 unfold I64;omega
theorem zg0 (a n x:Int):Pur Tryz.prog 211 [.agg [.int .u32 a,.int .i64 n],.int .u32 x] (.bool (hasF a n x)):=by
 refine zn Tst.F211 (by simp [Tst.F211,Fn.mkX]) fun σ => ?_
 simp only [Tst.F211,Fn.mkX,Tst.b211]
 simp only [↓vcPre,↓z0,↓reduceIte,vcPost,vcStd,Nat.reduceEqDiff,reduceCtorEq,Nat.reduceAdd,Nat.reduceLeDiff,Int.reduceLT,Int.reduceLE,↓u_setN]
 refine AllocQ.i0 fun i hi => ?_
 simp only [*,↓vcPre,↓z0,↓reduceIte,vcPost,vcStd,Nat.reduceEqDiff,reduceCtorEq,Nat.reduceAdd,Nat.reduceLeDiff,Int.reduceLT,Int.reduceLE,↓u_setN]
 refine (c71 a n).q' ?_
 have hs:=Store.sub_set σ i (.box [.int .u32 a,.int .i64 n]) hi
 cases h1:rightF a n
 ·simp only [*,↓vcPre,↓z0,↓reduceIte,vcPost,vcStd,Nat.reduceEqDiff,reduceCtorEq,Nat.reduceAdd,Nat.reduceLeDiff,Int.reduceLT,Int.reduceLE,↓u_setN]
  simp [hasF,h1]
 ·simp only [*,↓vcPre,↓z0,↓reduceIte,vcPost,vcStd,Nat.reduceEqDiff,reduceCtorEq,Nat.reduceAdd,Nat.reduceLeDiff,Int.reduceLT,Int.reduceLE,↓u_setN]
  refine (zbc n (z0x h1)).q' ?_
  simp only [*,↓vcPre,↓z0,↓reduceIte,vcPost,vcStd,Nat.reduceEqDiff,reduceCtorEq,Nat.reduceAdd,Nat.reduceLeDiff,Int.reduceLT,Int.reduceLE,↓u_setN]
  simp [hasF,h1]
theorem zfu (p q:Int×Int):Pur Tryz.prog 180 [.agg [.int .u32 p.1,.int .i64 p.2],.agg [.int .u32 q.1,.int .i64 q.2]] (.bool (coversF p q)):=by
 refine zn Tst.F180 (by simp [Tst.F180,Fn.mkX]) fun σ => ?_
 simp only [Tst.F180,Fn.mkX,Tst.b180]
 simp only [↓vcPre,↓z0,↓reduceIte,vcPost,vcStd,Nat.reduceEqDiff,reduceCtorEq,Nat.reduceAdd,Nat.reduceLeDiff,Int.reduceLT,Int.reduceLE,↓u_setN]
 refine AllocQ.i0 fun i hi => ?_
 simp only [↓vcPre,↓z0,↓reduceIte,vcPost,vcStd,Nat.reduceEqDiff,reduceCtorEq,Nat.reduceAdd,Nat.reduceLeDiff,Int.reduceLT,Int.reduceLE,↓u_setN]
 refine AllocQ.i1 fun j hj1 hj2 hj => ?_
 simp only [*,↓vcPre,↓z0,↓reduceIte,vcPost,vcStd,Nat.reduceEqDiff,reduceCtorEq,Nat.reduceAdd,Nat.reduceLeDiff,Int.reduceLT,Int.reduceLE,↓u_setN]
 refine (c71 q.1 q.2).Q ?_
 cases h1:rightF q.1 q.2
 ·simp only [*,↓vcPre,↓z0,↓reduceIte,vcPost,vcStd,Nat.reduceEqDiff,reduceCtorEq,Nat.reduceAdd,Nat.reduceLeDiff,Int.reduceLT,Int.reduceLE,↓u_setN];simp [coversF,h1]
 ·simp only [*,↓vcPre,↓z0,↓reduceIte,vcPost,vcStd,Nat.reduceEqDiff,reduceCtorEq,Nat.reduceAdd,Nat.reduceLeDiff,Int.reduceLT,Int.reduceLE,↓u_setN]
  refine (zg0 p.1 p.2 q.1).Q ?_
  cases h2:hasF p.1 p.2 q.1
  ·simp only [*,↓vcPre,↓z0,↓reduceIte,vcPost,vcStd,Nat.reduceEqDiff,reduceCtorEq,Nat.reduceAdd,Nat.reduceLeDiff,Int.reduceLT,Int.reduceLE,↓u_setN];simp [coversF,h1,h2]
  ·simp only [*,↓vcPre,↓z0,↓reduceIte,vcPost,vcStd,Nat.reduceEqDiff,reduceCtorEq,Nat.reduceAdd,Nat.reduceLeDiff,Int.reduceLT,Int.reduceLE,↓u_setN];simp [coversF,h1,h2]
theorem zft (l:List Int) (hl:l.length≤1000000) (x:Int):Pur Tryz.prog 171 [.sl 1 (l.map cU),.int .u32 x] (.int .i64 (if x ∈ l then (l.idxOf x:Int) else -1)):=by
 refine zn Tst.F171 (by simp [Tst.F171,Fn.mkX]) fun σ => ?_
 simp only [Tst.F171,Fn.mkX,Tst.b171]
 simp only [↓vcPre,↓z0,↓reduceIte,vcPost,vcStd,Nat.reduceEqDiff,reduceCtorEq,Nat.reduceAdd,Nat.reduceLeDiff,Int.reduceLT,Int.reduceLE,↓u_setN]
 refine LoopQ.inv (S:=Nat) (fun k=>[(0,.sl 1 (l.map cU)),(1,.int .u32 x),(7,.int .i64 (l.length:Int)),(8,.int .i64 (k:Int))]) (fun _=>σ) (fun k=>k≤l.length∧x ∉ l.take k) (fun k=>l.length+1 - k) 0 rfl (Store.sub_refl _) ⟨by omega,by simp⟩ ?_
 rintro k ⟨hk,hx⟩
 simp only [↓vcPre,↓z0,↓reduceIte,vcPost,vcStd,Nat.reduceEqDiff,reduceCtorEq,Nat.reduceAdd,Nat.reduceLeDiff,Int.reduceLT,Int.reduceLE,↓u_setN]
 refine ⟨fun c1 => ?_,fun c1 => ?_⟩
 ·have ek:IntKind.i64.wrap ((k:Int)+1)=((k+1:Nat):Int):=by rw [zd (by unfold I64;omega)];omega
  simp only [cU,ek,↓vcPre,↓z0,↓reduceIte,vcPost,vcStd,Nat.reduceEqDiff,reduceCtorEq,Nat.reduceAdd,Nat.reduceLeDiff,Int.reduceLT,Int.reduceLE,↓u_setN]
  refine ⟨c1,fun e => ?_,fun e => ?_⟩
  ·have hm:x ∈ l:=by rw [e];exact List.getElem_mem c1
   rw [if_pos hm]
   have hsp:l=l.take k++(l[k]::l.drop (k+1)):=by rw [←List.drop_eq_getElem_cons c1,List.take_append_drop]
   have:l.idxOf x=k:=by
    rw [hsp,List.idxOf_append,if_neg hx,←e,List.idxOf_cons_self]
    simp;omega
   omega
  ·refine NextQ.to (k+1) rfl (Store.sub_refl _) (by omega) ⟨by omega,?_⟩
   rw [List.take_succ_eq_append_getElem c1,List.mem_append,List.mem_singleton]
   rintro (h | h)
   ·exact hx h
   ·exact e h
 ·have:k=l.length:=by omega
  subst this
  rw [List.take_length] at hx
  rw [if_neg hx]
theorem z77 (l:List Int) (hl:l.length≤1000000) (x:Int):Pur Tryz.prog 131 [.sl 1 (l.map cU),.int .u32 x] (.bool (decide (x ∈ l))):=by
 refine zn Tst.F131 (by simp [Tst.F131,Fn.mkX]) fun σ => ?_
 simp only [Tst.F131,Fn.mkX,Tst.b131]
 simp only [↓vcPre,↓z0,↓reduceIte,vcPost,vcStd,Nat.reduceEqDiff,reduceCtorEq,Nat.reduceAdd,Nat.reduceLeDiff,Int.reduceLT,Int.reduceLE,↓u_setN]
 refine (zft l hl x).Q ?_
 simp only [↓vcPre,↓z0,↓reduceIte,vcPost,vcStd,Nat.reduceEqDiff,reduceCtorEq,Nat.reduceAdd,Nat.reduceLeDiff,Int.reduceLT,Int.reduceLE,↓u_setN]
 by_cases h:x ∈ l
 ·rw [if_pos h];simp [h]
 ·rw [if_neg h];simp [h]
structure Rule where
 ad:Int
 ln:Int
 fr:Int
 tl:Int
 cm:Int
 rj:Bool
 sp:Bool
 pf:Int
 sm:Bool
 md:Int
 pp:Int
 ac:Int
def Rule.c (r:Rule):List AV:=[.int .u32 r.ad,.int .i64 r.ln,.int .i64 r.fr,.int .i64 r.tl,.int .u32 r.cm,.bool r.rj,.bool r.sp,.int .u32 r.pf,.bool r.sm,.int .u32 r.md,.int .i64 r.pp,.int .u32 r.ac]
def matchF (r:Rule) (q:Int×Int) (a:At):Bool:=coversF (r.ad,r.ln) q && (decide (r.fr≤q.2) && (decide (q.2≤r.tl) && (decide (r.cm=0) || decide (r.cm ∈ a.cms))))
theorem zbe (r:Rule) (q:Int×Int) (a:At) (ha:a.cms.length≤1000000):Pur Tryz.prog 138 [.agg r.c,.agg [.int .u32 q.1,.int .i64 q.2],.agg a.c] (.bool (matchF r q a)):=by
 refine zn Tst.F138 (by simp [Tst.F138,Fn.mkX]) fun σ => ?_
 simp only [Tst.F138,Fn.mkX,Tst.b138]
 have e12:r.c.length=12:=rfl
 have e9:a.c.length=9:=rfl
 have r0:List.take 2 r.c=[.int .u32 r.ad,.int .i64 r.ln]:=rfl
 have r2:List.take 1 (List.drop 2 r.c)=[.int .i64 r.fr]:=rfl
 have r3:List.take 1 (List.drop 3 r.c)=[.int .i64 r.tl]:=rfl
 have r4:List.take 1 (List.drop 4 r.c)=[.int .u32 r.cm]:=rfl
 have a8:List.take 1 (List.drop 8 a.c)=[.sl 1 (a.cms.map cU)]:=rfl
 simp only [↓vcPre,↓z0,↓reduceIte,vcPost,vcStd,Nat.reduceEqDiff,reduceCtorEq,Nat.reduceAdd,Nat.reduceLeDiff,Int.reduceLT,Int.reduceLE,↓u_setN]
 refine AllocQ.i0 fun i hi => ?_
 simp only [↓vcPre,↓z0,↓reduceIte,vcPost,vcStd,Nat.reduceEqDiff,reduceCtorEq,Nat.reduceAdd,Nat.reduceLeDiff,Int.reduceLT,Int.reduceLE,↓u_setN]
 refine AllocQ.i1 fun j hj1 hj2 hj => ?_
 simp only [↓vcPre,↓z0,↓reduceIte,vcPost,vcStd,Nat.reduceEqDiff,reduceCtorEq,Nat.reduceAdd,Nat.reduceLeDiff,Int.reduceLT,Int.reduceLE,↓u_setN]
 refine AllocQ.i2 fun k hk1 hk2 hk3 hk4 hk => ?_
 have sT:Store.sub σ (((σ.set i (.box r.c)).set j (.box [.int .u32 q.1,.int .i64 q.2])).set k (.box a.c)):=za (zp hi hj hj1) hk
 have Tk:(((σ.set i (.box r.c)).set j (.box [.int .u32 q.1,.int .i64 q.2])).set k (.box a.c)) k=some (.box a.c):=Store.set_same _ _ _
 have Tj:(((σ.set i (.box r.c)).set j (.box [.int .u32 q.1,.int .i64 q.2])).set k (.box a.c)) j=some (.box [.int .u32 q.1,.int .i64 q.2]):=by rw [Store.set_ne _ _ hk4];exact Store.set_same _ _ _
 have Ti:(((σ.set i (.box r.c)).set j (.box [.int .u32 q.1,.int .i64 q.2])).set k (.box a.c)) i=some (.box r.c):=by rw [Store.set_ne _ _ hk2,Store.set_ne _ _ hj2];exact Store.set_same _ _ _
 simp only [↓vcPre,↓z0,↓reduceIte,vcPost,vcStd,Nat.reduceEqDiff,reduceCtorEq,Nat.reduceAdd,Nat.reduceLeDiff,Int.reduceLT,Int.reduceLE,↓u_setN]
 generalize ((σ.set i (.box r.c)).set j (.box [.int .u32 q.1,.int .i64 q.2])).set k (.box a.c)=T at sT Tk Tj Ti ⊢
 simp only [Ti,Tj,e12,r0,↓vcPre,↓z0,↓reduceIte,vcPost,vcStd,Nat.reduceEqDiff,reduceCtorEq,Nat.reduceAdd,Nat.reduceLeDiff,Int.reduceLT,Int.reduceLE,↓u_setN]
 refine (zfu (r.ad,r.ln) q).Q ?_
 unfold matchF
 cases h1:coversF (r.ad,r.ln) q
 ·simp only [↓vcPre,↓z0,↓reduceIte,vcPost,vcStd,Nat.reduceEqDiff,reduceCtorEq,Nat.reduceAdd,Nat.reduceLeDiff,Int.reduceLT,Int.reduceLE,↓u_setN]
  exact ⟨rfl,sT⟩
 simp only [Ti,Tj,Tk,e12,e9,r2,r3,r4,a8,↓vcPre,↓z0,↓reduceIte,vcPost,vcStd,Nat.reduceEqDiff,reduceCtorEq,Nat.reduceAdd,Nat.reduceLeDiff,Int.reduceLT,Int.reduceLE,↓u_setN]
 refine ⟨fun g1=>⟨fun g2=>⟨fun g3 => ?_,fun g3=>⟨by simp [g1,g2,g3],sT⟩⟩,fun g2=>⟨by simp [g1,g2],sT⟩⟩,fun g1=>⟨by simp [g1],sT⟩⟩
 refine (z77 a.cms ha r.cm).Q ?_
 simp only [↓vcPre,↓z0,↓reduceIte,vcPost,vcStd,Nat.reduceEqDiff,reduceCtorEq,Nat.reduceAdd,Nat.reduceLeDiff,Int.reduceLT,Int.reduceLE,↓u_setN]
 exact ⟨by simp [g1,g2,g3],sT⟩
end Go.Am
namespace Go.Am
open Go.RowKit
def Imp (x y:AV):Prop:=y.flat=true∧∀ G w v,VRel G w x v→VRel G w y v
theorem Imp.refl {x:AV} (h:x.flat=true):Imp x x:=⟨h,fun _ _ _ h=>h⟩
theorem Imp.nils {esz:Nat}:Imp .nils (.sl esz []):=⟨rfl,fun _ _ _ h=>by have:=h.of_nils;subst this;exact .sl0⟩
abbrev ImpL (xs ys:List AV):Prop:=Rels Imp xs ys
theorem ImpL.refl:∀ (l:List AV),(∀ x ∈ l,x.flat=true)→ImpL l l
 | [],_ => .nil
 | x::l,h => .cons (.refl (h x (by simp))) (ImpL.refl l fun y hy=>h y (by simp [hy]))
theorem ImpL.flat {a b:List AV} (h:ImpL a b):∀ x ∈ b,x.flat=true:=by
 induction h with
 | nil=>simp
 | cons h1 _ ih=>intro x hx;exact (List.mem_cons.1 hx).elim (fun e=>e ▸ h1.1) (ih x)
end Go.Am
