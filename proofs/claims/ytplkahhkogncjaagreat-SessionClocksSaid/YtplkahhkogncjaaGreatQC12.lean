/- A part of the proof: a logic for calls over plain values, and the functions that the law reaches, each walked once. -/
import Derived.Test.YtplkahhkogncjaaGreatQC11
import Derived.RangeFuncBox
import Derived.RangeFuncLeaves
import Derived.Shelf.Abstract
import Derived.WalkKit
import Derived.OwnWalkIn
import Derived.TacticsInMore
import Derived.LoopNIn
import Derived.LoopIn
import Derived.Maps.AppendAt
import Derived.Test.YtplkahhkogncjaaGreatProg
set_option linter.unusedVariables false
set_option linter.unusedSimpArgs false
set_option linter.unusedSectionVars false
namespace Go.Am.AS
open Go.RowKit Go.Shelf Go.Proofs
set_option linter.unusedVariables false
set_option linter.unusedSimpArgs false
attribute [local go_sem] Oper.semAt_some
def upto {α:Type} (f:Nat→α) (k:Nat):List α:=(List.range k).map f
theorem z2y {α:Type} (f:Nat→α) (k:Nat):upto f (k+1)=upto f k++[f k]:=by simp [upto,List.range_succ]
theorem z4m {α:Type} (f:Nat→α) (k:Nat):(upto f k).length=k:=by simp [upto]
theorem zab (zs:List Int):upto (fun j=>zs[j]?.getD 0) zs.length=zs:=by
 apply List.ext_getElem
 ·simp [upto]
 ·intro i h1 h2
  simp [upto,h2]
set_option maxRecDepth 100000 in
set_option maxHeartbeats 2000000 in
theorem z6q (F:Fence) (n:Nat) (h7:F.fn 175) (hro:F.round=none) (hn:1≤n) (l Bs oB n₀ b off len cap:Nat) (pa:Option Addr) (zs:List Int) (hreach:len≤9223372036854775806) (hpa:0<len→pa=some ⟨b,off,none⟩∧b<n₀) (J Jx:List Int→World→Prop)
 (hY:∀ pre x W,J pre W→pre.length<len→YieldAt F (n - 1) Tryz.prog l #[.int .u32 x] W fun e W' =>
   (e = .returned (.bool true)∧J (pre++[x]) W'∧Below n₀ W W')∨(e = .returned (.bool false)∧Jx (pre++[x]) W'))
 (W:World) (hBs:W.cell? ⟨Bs,oB,none⟩=some (.slice pa len cap)) (hc:∀ j,j<len→W.cell? ⟨b,off+j,none⟩=some (.int .u32 (zs[j]?.getD 0))) (h0:J [] W) :
 CallsIn F n Tryz.prog 175 #[.func (.yield l) #[] #[],.pointer (some ⟨Bs,oB,none⟩)] W fun e W'=>(∃ v,e = .returned v) ∧
  ((∃ ys,ys=upto (fun j=>zs[j]?.getD 0) len∧J ys W')∨(∃ pre,(∃ k,k≤len∧pre=upto (fun j=>zs[j]?.getD 0) k)∧Jx pre W')):=by
 refine callsIn_of_wp Tryz.func175 rfl h7 ?_ hro
 simp only [Tryz.ntmps175,List.size_toArray,List.length_cons,List.length_nil,Nat.reduceAdd,Nat.reduceSub,Array.replicate_succ,Array.replicate_zero,List.push_toArray,List.append_toArray,List.nil_append,List.cons_append]
 gi_wp2
 gi_loopw [7] (fun i wr=>∃ k:Nat,k≤len∧i = .int .i64 k∧J (upto (fun j=>zs[j]?.getD 0) k) wr∧Below n₀ W wr)
  (fun i _=>len - (intOf i).toNat)
 case atStart=>exact ⟨0,Nat.zero_le _,rfl,h0,Below.refl _ _⟩
 case round =>
  obtain ⟨k,hk,rfl,hJs,hnx⟩:=hrel
  have hcx:b<n₀→k<len→wr.cell? ⟨b,off+k,none⟩=some (.int .u32 (zs[k]?.getD 0)):=fun hb h=>(hnx.cell (p:=⟨b,off+k,none⟩) hb).trans (hc k h)
  by_cases hlt:k<len
  ·obtain ⟨fn,tmps,assign,body,hy,hR⟩:=hY _ (zs[k]?.getD 0) wr hJs (by rw [z4m];exact hlt)
   obtain ⟨hpa1,hb⟩:=hpa (by omega)
   subst hpa1
   have hcx':=hcx hb hlt
   gi_wp2
   refine hR.mono ?_
   rintro e W3 (⟨rfl,hJ3,hk3⟩ | ⟨rfl,hJx3⟩)
   ·gi_wp2
    go_roundw
    case rel=>exact ⟨k+1,by omega,by simp,by rw [z2y];exact hJ3,hnx.trans hk3⟩
    case measure=>simp [intOf];omega
   ·gi_wp2
    refine bodyPost_ret (results_none rfl _ _ _) rfl ?_
    exact ⟨⟨_,rfl⟩,.inr ⟨_,⟨k+1,by omega,(z2y _ _).symm⟩,hJx3⟩⟩
  ·obtain rfl:k=len:=by omega
   gi_wp2
   go_end0
   exact ⟨⟨_,rfl⟩,.inl ⟨_,rfl,hJs⟩⟩
theorem z49 (F:Fence) (n:Nat) (h7:F.fn 175) (hro:F.round=none) (hn:1≤n) (Bs oB n₀ b off cap:Nat) (pa:Option Addr) (zs:List Int) (w:World) (hreach:zs.length≤9223372036854775806) (hBs:Bs<w.heap.size) (hn₀:n₀≤w.heap.size) (hpa:0<zs.length→pa=some ⟨b,off,none⟩∧b<n₀)
 (hc0:w.cell? ⟨Bs,oB,none⟩=some (.slice pa zs.length cap)) (hc:∀ j,j<zs.length→w.cell? ⟨b,off+j,none⟩=some (.int .u32 (zs[j]?.getD 0))) :
 SeqStopsK F n Tryz.prog 175 #[.pointer (some ⟨Bs,oB,none⟩)] (fun x:Int => #[Value.int .u32 x]) (Below n₀) (fun ys=>ys=zs) (fun _=>True) zs.length w:=fun l J Jx W hW _ _ hY h0=>by
 refine (z6q F n h7 hro hn l Bs oB n₀ b off zs.length cap pa zs hreach hpa J Jx hY W ((hW.cell (p:=⟨Bs,oB,none⟩) hBs).trans hc0) (fun j hj=>(hW.cell (p:=⟨b,off+j,none⟩) (Nat.lt_of_lt_of_le (hpa (by omega)).2 hn₀)).trans (hc j hj)) h0).mono ?_
 rintro e W' ⟨hv,⟨ys,h1,h2⟩ | ⟨pre,_,h2⟩⟩
 ·exact ⟨hv,.inl ⟨ys,by rw [h1,zab],h2⟩⟩
 ·exact ⟨hv,.inr ⟨pre,trivial,h2⟩⟩
theorem zg0:(Tryz.prog.info? 22).map (fun i=>(i.zero,i.size,i.bytes))=some (some (.int .u32 0),1,4):=by kernel_rfl
set_option maxRecDepth 100000 in
set_option maxHeartbeats 2000000 in
theorem z6u (F:Fence) (n:Nat) (h3:F.fn 206) (h5:F.fn 175) (hro:F.round=none) (hn:3≤n) (Bs oB b off cap:Nat) (pa:Option Addr) (zs:List Int) (hlen:zs.length*4≤140737488355328) (w:World) (hBs:Bs<w.heap.size) (hpa:0<zs.length→pa=some ⟨b,off,none⟩∧b<w.heap.size)
 (hc0:w.cell? ⟨Bs,oB,none⟩=some (.slice pa zs.length cap)) (hcs:∀ j,j<zs.length→w.cell? ⟨b,off+j,none⟩=some (.int .u32 (zs[j]?.getD 0))) :
 CallsIn F n Tryz.prog 206 #[.slice none 0 0,.func (.func 175) #[] #[.pointer (some ⟨Bs,oB,none⟩)]] w fun e W'=>∃ v,e = .returned v∧W'.ownsRow w.heap.size 22 1 v zs.length (zs.map (Value.int .u32))∧(v = .slice none 0 0↔zs=[])∧Below w.heap.size w W':=by
 have h1:1≤n:=by omega
 have hml:zs.length≤maxLen:=by unfold maxLen;omega
 obtain ⟨i0,hi,hz0,hz1,hz2⟩:=info_parts zg0
 refine callsIn_of_wp_marks Tryz.func206 rfl h3 ?_ hro
 simp only [Tryz.ntmps206,List.size_toArray,List.length_cons,List.length_nil,Nat.reduceAdd,Nat.reduceSub,Array.replicate_succ,Array.replicate_zero,List.push_toArray,List.append_toArray,List.nil_append,List.cons_append]
 gi_wp2
 have bO:=Boxed.new w 30 (.slice none 0 0)
 have hB0:Below w.heap.size w (w.alloc (.cells #[.slice none 0 0] 30)):=(Below.refl _ w).alloc (Nat.le_refl _) _
 refine wpIn_rangeFunc_ownG hro h1 (gf:=175) (lb := #[.pointer (some ⟨Bs,oB,none⟩)]) rfl h5 (enters_of Tryz.func175 (by kernel_rfl) rfl)
  (z49 F (n - 1) h5 hro (by omega) Bs oB w.heap.size b off cap pa zs _ (by omega) (by simp;omega) (by simp) hpa ((hB0.cell (p:=⟨Bs,oB,none⟩) hBs).trans hc0) (fun j hj=>(hB0.cell (p:=⟨b,off+j,none⟩) (hpa (by omega)).2).trans (hcs j hj))) belowK_t (belowK_b (by simp)) (Below.refl _ _) (fun _=>rfl)
  (fun pre W=>(∃ v,Boxed W w.heap.size 30 v∧W.ownsRow w.heap.size 22 1 v pre.length (pre.map (Value.int .u32))∧(v = .slice none 0 0↔pre=[]))∧Below w.heap.size w W)
  (fun _ _ _=>False)
  (OwnFrom.and (Own.from (holdsRow_own w.heap.size w.heap.size 30 22 1 (fun pre:List Int=>pre.length) (fun pre=>pre.map (Value.int .u32)) (fun pre v=>v = .slice none 0 0↔pre=[])) _) (ownFrom_below (Nat.le_refl _) (by simp)))
  (fun _ _ _ _ _ hs _ _=>hs)
  ⟨⟨_,bO,World.ownsRow_nil _ _ _ _,by simp⟩,hB0⟩
  (fun x=>{ tmps := #[.slice none 0 0,.func (.func 175) #[] #[.pointer (some ⟨Bs,oB,none⟩)],.pointer (some ⟨w.heap.size,0,none⟩),undef,.slice none 0 0,.int .u32 x,.func (.func 175) #[] #[.pointer (some ⟨Bs,oB,none⟩)],.int .u32 x,undef,undef,undef,undef,undef],defers:=[] }) ?assign ?body ?done ?stop
 case assign =>
  intro l x W K hK
  gi_wp2
  exact hK
 case body =>
  rintro l pre x W ⟨⟨v,hv,hrow,hnil⟩,hB⟩ hlt
  have hc:=hv.cell
  gi_wp2_with (gi_at_builtin;refine wpListIn_append_own _ rfl _ _ 30 rfl w.heap.size 22 i0 (.int .u32 0) 1 4 Tryz.underlying30 hi hz0 hz1 hz2 rfl (by decide) _ _ _ rfl (hrow.alloc _) ⟨W.heap.size,0,none⟩ 1 1 [.int .u32 x] rfl rfl (cell_one_new _ _ _) (by simp [Value.oneCell']) (by omega) (by omega) (by have:=hB.size;simp;omega) ?_;intro v' w1 hown' hgrow _;obtain ⟨g',cap',rfl⟩:=ownsRow_succ hown';obtain ⟨hv1,hv2,hr2,hk2,hb2⟩:=hv.appended (by decide) hrow hB.size (Nat.le_refl _) hown' hgrow;have hc1:=hv1.cell;have hf1:=hv1.frozen)
  exact ⟨hk2.from _,hb2,⟨_,hv2,by simpa using hr2,by simp⟩,hB.trans hb2⟩
 case done =>
  rintro D ys W hD rfl ⟨⟨v,hv,hrow,hnil⟩,hB⟩ hK
  have hc:=hv.cell
  gi_wp2
  refine ⟨by simp,.inl ⟨_,_,rfl,run_takeDeferred hK,?_⟩⟩
  exact ⟨_,results_tmp rfl _ _ _,v,rfl,ownsRow_putObj hrow _ hK rfl,hnil,hB.trans (belowK_b (w:=w) (Nat.le_refl _) W D _ _ (by simp at hD;omega) hK rfl rfl)⟩
 case stop =>
  rintro D c pre W _ _ h _
  exact h.elim
theorem append_calls:Go.Am.SeqHolds Tryz.prog 206 175 .u32 22 4:=fun Bs oB b off cap pa zs w hlen hBs hpa hc0 hcs =>
 (callsIn_wide (n:=3)).1 (z6u _ 3 trivial trivial rfl (Nat.le_refl _) Bs oB b off cap pa zs hlen w hBs hpa hc0 hcs)
theorem ent:Go.Am.Ent Tryz.prog 206:=⟨_,Tryz.func206,by decide,rfl⟩
end Go.Am.AS
namespace Go.Am
open Go.Proofs Go.Sort
def cU (x:Int):List AV:=[.int .u32 x]
abbrev LessU:Prop:=∀ x y:Int,Pur Tryz.prog 229 [.int .u32 x,.int .u32 y] (.bool (decide (cfU x y<0)))
theorem zhw (x:Int):Pur Tryz.prog 186 [.int .u32 x] (.bool false):=by
 refine zw Tst.F186 (by simp [Tst.F186,Fn.mkX]) fun σ => ?_
 simp only [Tst.F186,Fn.mkX,Tst.b186]
 simp only [↓vcPre,↓z8,↓reduceIte,vcPost,vcStd,Nat.reduceEqDiff,reduceCtorEq,Nat.reduceAdd,Nat.reduceLeDiff,Int.reduceLT,Int.reduceLE,↓u_setN]
theorem zg3:LessU:=by
 intro x y
 refine zw Tst.F229 (by simp [Tst.F229,Fn.mkX]) fun σ => ?_
 simp only [Tst.F229,Fn.mkX,Tst.b229]
 simp only [↓vcPre,↓z8,↓reduceIte,vcPost,vcStd,Nat.reduceEqDiff,reduceCtorEq,Nat.reduceAdd,Nat.reduceLeDiff,Int.reduceLT,Int.reduceLE,↓u_setN]
 refine (zhw x).Q ?_
 simp only [↓vcPre,↓z8,↓reduceIte,vcPost,vcStd,Nat.reduceEqDiff,reduceCtorEq,Nat.reduceAdd,Nat.reduceLeDiff,Int.reduceLT,Int.reduceLE,↓u_setN]
 have e:decide (x<y)=decide (cfU x y<0):=by
  rw [Bool.eq_iff_iff,decide_eq_true_eq,decide_eq_true_eq];unfold cfU;omega
 rw [e]
theorem hU:SH Tryz.prog NU .u32:=zfl zg3 z8v zd8 zdr
theorem zih {σ:Store} {b:Nat} {S:AV} {zs:List Int} (hbox:σ b=some (.box [S])) (hS:slc σ 1 S=some (zs.map cU)) (hle:zs.length≤1000000000) :
 ACalls Tryz.prog 134 [.fn 175 [.ptr b 0]] σ (fun r s=>(zs=[]∧r = .nils∧s=σ)∨(zs≠[]∧∃ g,∃ L:List Int,σ g=none∧L.Perm zs∧L.Pairwise (· ≤ ·)∧r = .os g 1 0 L.length∧s=σ.set g (.arr 1 (L.map cU)))):=by
 refine ze Tst.F134 (by simp [Tst.F134,Fn.mkX]) ?_
 simp only [Tst.F134,Fn.mkX,Tst.b134]
 simp only [↓vcPre,↓z8,↓reduceIte,vcPost,vcStd,Nat.reduceEqDiff,reduceCtorEq,Nat.reduceAdd,Nat.reduceLeDiff,Int.reduceLT,Int.reduceLE,↓u_setN]
 have hcol:ACalls Tryz.prog 173 [.fn 175 [.ptr b 0]] σ (fun a s=>(zs=[]∧a = .nils∧s=σ)∨(zs≠[]∧∃ g,σ g=none∧a = .os g 1 0 zs.length∧s=σ.set g (.arr 1 (zs.map cU)))):=by
  refine ze Tst.F173 (by simp [Tst.F173,Fn.mkX]) ?_
  simp only [Tst.F173,Fn.mkX,Tst.b173]
  simp only [↓vcPre,↓z8,↓reduceIte,vcPost,vcStd,Nat.reduceEqDiff,reduceCtorEq,Nat.reduceAdd,Nat.reduceLeDiff,Int.reduceLT,Int.reduceLE,↓u_setN]
  refine (z9w AS.ent AS.append_calls hbox hS (by omega)).Q ?_
  rintro r s (⟨hz,rfl,rfl⟩ | ⟨hz,g,hg,rfl,rfl⟩)
  ·simp only [↓vcPre,↓z8,↓reduceIte,vcPost,vcStd,Nat.reduceEqDiff,reduceCtorEq,Nat.reduceAdd,Nat.reduceLeDiff,Int.reduceLT,Int.reduceLE,↓u_setN]
   exact EndQ.to _ _ rfl (Store.sub_refl _) (.inl ⟨hz,rfl,rfl⟩)
  ·simp only [↓vcPre,↓z8,↓reduceIte,vcPost,vcStd,Nat.reduceEqDiff,reduceCtorEq,Nat.reduceAdd,Nat.reduceLeDiff,Int.reduceLT,Int.reduceLE,↓u_setN]
   exact EndQ.to _ _ rfl (Store.sub_refl _) (.inr ⟨hz,g,hg,rfl,rfl⟩)
 refine hcol.Q ?_
 rintro r s (⟨hz,rfl,rfl⟩ | ⟨hz,g,hg,rfl,rfl⟩)
 ·simp only [↓vcPre,↓z8,↓reduceIte,vcPost,vcStd,Nat.reduceEqDiff,reduceCtorEq,Nat.reduceAdd,Nat.reduceLeDiff,Int.reduceLT,Int.reduceLE,↓u_setN]
  refine (z4z hU _).Q ?_
  rintro r s ⟨rfl,rfl⟩
  simp only [↓vcPre,↓z8,↓reduceIte,vcPost,vcStd,Nat.reduceEqDiff,reduceCtorEq,Nat.reduceAdd,Nat.reduceLeDiff,Int.reduceLT,Int.reduceLE,↓u_setN]
  exact EndQ.to _ _ rfl (Store.sub_refl _) (.inl ⟨hz,rfl,rfl⟩)
 ·simp only [↓vcPre,↓z8,↓reduceIte,vcPost,vcStd,Nat.reduceEqDiff,reduceCtorEq,Nat.reduceAdd,Nat.reduceLeDiff,Int.reduceLT,Int.reduceLE,↓u_setN]
  refine (z3l hU (L:=zs) (Store.set_same _ _ _) (by omega)).Q ?_
  rintro r s ⟨rfl,L,hp,hl,rfl⟩
  simp only [↓vcPre,↓z8,↓reduceIte,vcPost,vcStd,Nat.reduceEqDiff,reduceCtorEq,Nat.reduceAdd,Nat.reduceLeDiff,Int.reduceLT,Int.reduceLE,↓u_setN]
  exact EndQ.to _ _ rfl (Store.sub_refl _) (.inr ⟨hz,g,L,hg,hp,hl,by rw [hp.length_eq],by rw [Store.set_set];rfl⟩)
theorem zii (S:AV) (hS:S.isTup=false∧S.cells=[S]) (σ:Store):ACalls Tryz.prog 135 [S] σ (fun r s=>∃ b,σ b=none∧r = .fn 175 [.ptr b 0]∧s=σ.set b (.box [S])):=by
 refine ze Tst.F135 (by simp [Tst.F135,Fn.mkX]) ?_
 simp only [Tst.F135,Fn.mkX,Tst.b135]
 simp only [hS.1,hS.2,↓vcPre,↓z8,↓reduceIte,vcPost,vcStd,Nat.reduceEqDiff,reduceCtorEq,Nat.reduceAdd,Nat.reduceLeDiff,Int.reduceLT,Int.reduceLE,↓u_setN]
 refine AllocQ.i0 fun b hb => ?_
 simp only [↓vcPre,↓z8,↓reduceIte,vcPost,vcStd,Nat.reduceEqDiff,reduceCtorEq,Nat.reduceAdd,Nat.reduceLeDiff,Int.reduceLT,Int.reduceLE,↓u_setN]
 exact EndQ.to _ _ rfl (Store.sub_refl _) ⟨b,hb,rfl,rfl⟩
end Go.Am
namespace Go.Am
open Go.Proofs Go.Sort
theorem zgh {P:Program} {n:Nat} {z:List AV} {a:AV} {σ:Store} {K:AV→Store→Prop}:lwp P (.clr n z) [a] σ K↔clrwp n z a σ (K (.tup [])):=by simp only [lwp]
def ddA:List Int→List Int
 | []=>[]
 | [a]=>[a]
 | a::b::r=>if a=b then ddA (b::r) else a::ddA (b::r)
theorem z3d (x:Int):∀ l:List Int,ddA (l++[x])=if l.getLast? = some x then ddA l else ddA l++[x]
 | []=>by simp [ddA]
 | [a]=>by
   by_cases h:a=x
   ·simp [ddA,h]
   ·simp [ddA,h]
 | a::b::r=>by
   have ih:=z3d x (b::r)
   simp only [List.cons_append] at ih ⊢
   simp only [ddA,List.getLast?_cons_cons]
   rw [ih]
   by_cases hab:a=b
   ·simp only [hab,if_true]
   ·simp only [hab,if_false]
    split <;> simp
theorem z0u {L:List Int} {k:Nat} (h1:1≤k) (h:k<L.length):ddA (L.take (k+1))=if L[k - 1]'(by omega)=L[k] then ddA (L.take k) else ddA (L.take k)++[L[k]]:=by
 have e:L.take (k+1)=L.take k++[L[k]]:=by rw [List.take_add_one,List.getElem?_eq_getElem h];rfl
 rw [e,z3d]
 have:(L.take k).getLast? = some (L[k - 1]'(by omega)):=by
  rw [List.getLast?_eq_getElem?,List.length_take,Nat.min_eq_left (by omega),List.getElem?_take_of_lt (by omega),List.getElem?_eq_getElem (by omega)]
 rw [this]
 simp
theorem zig {σ:Store} {g:Nat} {L:List Int} (hσ:σ g=some (.arr 1 (L.map cU))) (hl:L.length<1000000000000) :
 ACalls Tryz.prog 133 [.os g 1 0 L.length] σ (fun r s=>∃ M:List Int,M.length=L.length∧M.take (ddA L).length=ddA L∧(ddA L).length≤L.length∧r = .os g 1 0 (ddA L).length∧s=σ.set g (.arr 1 (M.map cU))):=by
 refine ze Tst.F133 (by simp [Tst.F133,Fn.mkX]) ?_
 simp only [Tst.F133,Fn.mkX,Tst.b133]
 simp only [↓vcPre,↓z8,↓reduceIte,vcPost,vcStd,Nat.reduceEqDiff,reduceCtorEq,Nat.reduceAdd,Nat.reduceLeDiff,Int.reduceLT,Int.reduceLE,↓u_setN]
 refine ⟨fun c0 => ?_,fun c0 => ?_⟩
 ·have hd:ddA L=L:=by
   match L,c0 with
   | [],_=>rfl
   | [a],_=>rfl
   | a::b::r,h=>simp at h;omega
  refine EndQ.to σ _ rfl (Store.sub_refl _) ⟨L,rfl,by rw [hd];simp,by rw [hd];exact Nat.le_refl _,by rw [hd],(Store.set_self hσ).symm⟩
 ·have eS:σ=σ.set g (.arr 1 (L.map cU)):=(Store.set_self hσ).symm
  refine LoopQ.inv (S:=Nat) (fun k=>[(0,.os g 1 0 L.length),(3,.int .i64 (k:Int))]) (fun _=>σ) (fun k=>1≤k∧k≤L.length∧ddA (L.take k)=L.take k) (fun k=>L.length+1 - k) 1 rfl (Store.sub_refl _) ⟨by omega,by omega,by
   cases L with
   | nil=>rfl
   | cons a r=>simp [ddA]⟩ ?_
  rintro k ⟨h1,h2,h3⟩
  simp only [hσ,↓vcPre,↓z8,↓reduceIte,vcPost,vcStd,Nat.reduceEqDiff,reduceCtorEq,Nat.reduceAdd,Nat.reduceLeDiff,Int.reduceLT,Int.reduceLE,↓u_setN]
  have ek:IntKind.i64.wrap ((k:Int)+1)=((k+1:Nat):Int):=by rw [zd (by unfold I64;omega)];omega
  have em:IntKind.i64.wrap ((k:Int) - 1)=((k - 1:Nat):Int):=by rw [zd (by unfold I64;omega)];omega
  refine ⟨fun c1 => ?_,fun c1 => ?_⟩
  ·simp only [em,Int.toNat_natCast]
   refine ⟨by omega,by omega,by omega,by simp [cU],?_⟩
   simp only [cU,ek,em,Nat.zero_add,Option.getD_none,↓vcPre,↓z8,↓reduceIte,vcPost,vcStd,Nat.reduceEqDiff,reduceCtorEq,Nat.reduceAdd,Nat.reduceLeDiff,Int.reduceLT,Int.reduceLE,↓u_setN]
   refine ⟨by omega,fun c2 => ?_,fun c2 => ?_⟩
   ·refine ⟨by omega,?_⟩
    have hd0:ddA (L.take (k+1))=L.take k:=by
     rw [z0u h1 c1,if_pos c2.symm,h3]
    refine LoopQ.inv (S:=Nat×Nat×List Int) (fun q=>[(0,.os g 1 0 L.length),(3,.int .i64 (q.1:Int)),(4,.os g 1 k (L.length - k)),(5,.int .i64 (q.2.1:Int))]) (fun q=>σ.set g (.arr 1 (q.2.2.map cU)))
     (fun q=>1≤q.2.1∧k+q.2.1≤L.length∧1≤q.1∧q.1+1≤k+q.2.1∧q.2.2.length=L.length∧q.2.2.take q.1=ddA (L.take (k+q.2.1))∧q.1=(ddA (L.take (k+q.2.1))).length∧q.2.2.drop (k+q.2.1 - 1)=L.drop (k+q.2.1 - 1)) (fun q=>L.length+1 - q.2.1) (k,1,L) rfl (by rw [←eS];exact Store.sub_refl _)
     ⟨by simp only;omega,by simp only;omega,by simp only;omega,by simp only;omega,rfl,by simp only [hd0],by simp only [hd0,List.length_take];omega,rfl⟩ ?_
    rintro ⟨p,m,M⟩ ⟨g1,g2,g3,g4,g5,g6,g7,g8⟩
    simp only at g1 g2 g3 g4 g5 g6 g7 g8
    simp only [Nat.zero_add,↓vcPre,↓z8,↓reduceIte,vcPost,vcStd,Nat.reduceEqDiff,reduceCtorEq,Nat.reduceAdd,Nat.reduceLeDiff,Int.reduceLT,Int.reduceLE,↓u_setN]
    have en:IntKind.i64.wrap ((m:Int)+1)=((m+1:Nat):Int):=by rw [zd (by unfold I64;omega)];omega
    have ep:IntKind.i64.wrap ((p:Int)+1)=((p+1:Nat):Int):=by rw [zd (by unfold I64;omega)];omega
    have eq:IntKind.i64.wrap ((m:Int) - 1)=((m - 1:Nat):Int):=by rw [zd (by unfold I64;omega)];omega
    refine ⟨fun d1 => ?_,fun d1 => ?_⟩
    ·have hM1:M[k+m]'(by omega)=L[k+m]'(by omega):=by
      have:=congrArg (fun l:List Int=>l[1]?) g8
      simp only [List.getElem?_drop] at this
      rw [show k+m - 1+1=k+m by omega,List.getElem?_eq_getElem (by omega),List.getElem?_eq_getElem (by omega)] at this
      exact Option.some.inj this
     have hM0:M[k+(m - 1)]'(by omega)=L[k+m - 1]'(by omega):=by
      have:=congrArg (fun l:List Int=>l[0]?) g8
      simp only [List.getElem?_drop,Nat.add_zero] at this
      rw [List.getElem?_eq_getElem (by omega),List.getElem?_eq_getElem (by omega)] at this
      have h9:=Option.some.inj this
      have e9:k+(m - 1)=k+m - 1:=by omega
      simp only [e9];exact h9
     have hstep:=z0u (L:=L) (k:=k+m) (by omega) (by omega)
     simp only [eq,Int.toNat_natCast]
     refine ⟨by omega,⟨by omega,by omega⟩,by omega,by simp [cU],?_⟩
     simp only [hM1,hM0]
     simp only [cU,en,ep,Nat.zero_add,hM1,hM0,↓vcPre,↓z8,↓reduceIte,vcPost,vcStd,Nat.reduceEqDiff,reduceCtorEq,Nat.reduceAdd,Nat.reduceLeDiff,Int.reduceLT,Int.reduceLE,↓u_setN]
     refine ⟨by omega,fun e1=>⟨by omega,by omega,by omega,by omega,?_⟩,fun e1 => ?_⟩
     ·have eset:(List.map cU M).set p [AV.int IntKind.u32 (L[k+m]'(by omega))]=(M.set p (L[k+m]'(by omega))).map cU:=by rw [List.map_set];rfl
      rw [eset,Store.set_set]
      rw [if_neg (fun e=>e1 e.symm)] at hstep
      have el:(ddA (L.take (k+m+1))).length=p+1:=by rw [hstep,List.length_append,←g7];rfl
      refine NextQ.to (p+1,m+1,M.set p (L[k+m]'(by omega))) rfl (Store.sub_refl _) (by simp only;omega)
       ⟨by simp only;omega,by simp only;omega,by simp only;omega,by simp only;omega,by simp [g5],?_,?_,?_⟩
      ·simp only
       rw [show k+(m+1)=k+m+1 by omega,hstep,List.take_add_one,List.take_set,List.getElem?_set_self (by omega),←g6,List.set_eq_of_length_le (by simp;omega)]
       rfl
      ·simp only
       rw [show k+(m+1)=k+m+1 by omega,el]
      ·simp only
       rw [List.drop_set,if_pos (by omega),show k+(m+1) - 1=(k+m - 1)+1 by omega,←List.drop_drop,←List.drop_drop (l:=L),g8]
     ·rw [if_pos e1.symm] at hstep
      refine NextQ.to (p,m+1,M) rfl (Store.sub_refl _) (by simp only;omega)
       ⟨by simp only;omega,by simp only;omega,by simp only;omega,by simp only;omega,g5,?_,?_,?_⟩
      ·simp only
       rw [show k+(m+1)=k+m+1 by omega,hstep,g6]
      ·simp only
       rw [show k+(m+1)=k+m+1 by omega,hstep,g7]
      ·simp only
       rw [show k+(m+1) - 1=(k+m - 1)+1 by omega,←List.drop_drop,←List.drop_drop (l:=L),←g8]
    ·have hkm:L.take (k+m)=L:=List.take_of_length_le (by omega)
     rw [hkm] at g6 g7
     simp only [Option.getD_none,Option.getD_some,Int.toNat_natCast]
     refine ⟨by omega,?_⟩
     rw [zgh]
     simp only [clrwp,Store.set_same]
     refine ⟨trivial,trivial,by simp;omega,by omega,?_⟩
     have e1:(List.map cU M).take p++(List.replicate (L.length - p) [AV.int IntKind.u32 0]++(List.map cU M).drop (p+(L.length - p)))=(M.take p++List.replicate (L.length - p) 0).map cU:=by
      rw [List.drop_eq_nil_of_le (by simp;omega)]
      simp [cU,List.map_take]
     rw [e1,Store.set_set]
     refine EndQ.to (σ.set g (.arr 1 ((M.take p++List.replicate (L.length - p) 0).map cU))) _ rfl (Store.sub_refl _) ⟨_,by simp;omega,by rw [←g7,List.take_left' (by simp;omega)];exact g6,by omega,by rw [←g7];simp,rfl⟩
   ·refine NextQ.to (k+1) rfl (Store.sub_refl _) (by omega) ⟨by omega,by omega,?_⟩
    rw [z0u h1 c1,if_neg (fun e=>c2 e.symm),h3,List.take_add_one,List.getElem?_eq_getElem c1]
    rfl
  ·have hk:L.take k=L:=List.take_of_length_le (by omega)
   rw [hk] at h3
   refine EndQ.to σ _ rfl (Store.sub_refl _) ⟨L,rfl,by rw [h3];simp,by rw [h3];exact Nat.le_refl _,by rw [h3],(Store.set_self hσ).symm⟩
end Go.Am
namespace Go.Am
open Go.Proofs Go.Sort
structure Seg where
 kind:Int
 ls:List Int
def Seg.c (s:Seg):List AV:=[.int .i64 s.kind,.sl 1 (s.ls.map cU)]
structure At where
 org:Int
 path:List Seg
 nxt:Int
 hm:Bool
 med:Int
 hp:Bool
 prf:Int
 atm:Bool
 cms:List Int
def At.c (a:At):List AV:=[.int .i64 a.org,.sl 2 (a.path.map Seg.c),.int .u32 a.nxt,.bool a.hm,.int .u32 a.med,.bool a.hp,.int .u32 a.prf,.bool a.atm,.sl 1 (a.cms.map cU)]
def Seg.ok (s:Seg):Prop:=s.ls.length≤1000000
def At.ok (a:At):Prop:=a.path.length≤1000000∧(∀ s ∈ a.path,s.ok)∧a.cms.length≤1000000
theorem zhv (zs:List Int) (h:zs.length≤1000000000):Pur Tryz.prog 172 [.sl 1 (zs.map cU)] (.sl 1 (zs.map cU)):=by
 intro σ
 refine ze Tst.F172 (by simp [Tst.F172,Fn.mkX]) ?_
 simp only [Tst.F172,Fn.mkX,Tst.b172]
 simp only [↓vcPre,↓z8,↓reduceIte,vcPost,vcStd,Nat.reduceEqDiff,reduceCtorEq,Nat.reduceAdd,Nat.reduceLeDiff,Int.reduceLT,Int.reduceLE,↓u_setN]
 show nilqwp false (.sl 1 (zs.map cU)) _
 refine z8g fun b hb => ?_
 cases b with
 | true =>
   have hl:zs=[]:=by
    cases zs with
    | nil=>rfl
    | cons x r=>have:=hb (by simp);cases this
   subst hl
   simp only [↓vcPre,↓z8,↓reduceIte,vcPost,vcStd,Nat.reduceEqDiff,reduceCtorEq,Nat.reduceAdd,Nat.reduceLeDiff,Int.reduceLT,Int.reduceLE,↓u_setN]
   exact EndQ.nil1 1 σ rfl (Store.sub_refl _) ⟨rfl,rfl⟩
 | false =>
   simp only [↓vcPre,↓z8,↓reduceIte,vcPost,vcStd,Nat.reduceEqDiff,reduceCtorEq,Nat.reduceAdd,Nat.reduceLeDiff,Int.reduceLT,Int.reduceLE,↓u_setN]
   refine AllocQ.i0 fun i hi => ?_
   simp only [↓vcPre,↓z8,↓reduceIte,vcPost,vcStd,Nat.reduceEqDiff,reduceCtorEq,Nat.reduceAdd,Nat.reduceLeDiff,Int.reduceLT,Int.reduceLE,↓u_setN]
   refine xd (zq (Store.set_same _ _ _) rfl) (y := .sl 1 (zs.map cU)) us (by simp;omega) fun j hj => ?_
   simp only [List.nil_append,List.length_nil,Nat.zero_add]
   refine EndQ.frz j 1 0 _ (zs.map cU) σ rfl (Store.set_same _ _ _) (by simp) (um hi hj) ⟨rfl,?_⟩
   rw [List.drop_zero,List.take_of_length_le (by simp)]
theorem zho (p:List Seg) (h:p.length≤1000000) (ho:∀ s ∈ p,s.ok):Pur Tryz.prog 132 [.sl 2 (p.map Seg.c)] (.sl 2 (p.map Seg.c)):=by
 intro σ
 refine ze Tst.F132 (by simp [Tst.F132,Fn.mkX]) ?_
 simp only [Tst.F132,Fn.mkX,Tst.b132]
 simp only [↓vcPre,↓z8,↓reduceIte,vcPost,vcStd,Nat.reduceEqDiff,reduceCtorEq,Nat.reduceAdd,Nat.reduceLeDiff,Int.reduceLT,Int.reduceLE,↓u_setN]
 refine LoopQ.inv (S:=Nat×AV×Store) (fun q=>[(3,q.2.1),(6,.sl 2 (p.map Seg.c)),(7,.int .i64 (p.length:Int)),(8,.int .i64 (q.1:Int))]) (fun q=>q.2.2)
  (fun q=>q.1≤p.length∧Store.sub σ q.2.2∧Own 2 σ ((p.take q.1).map Seg.c) q.2.1 q.2.2) (fun q=>p.length+1 - q.1) (0,.nils,σ) rfl (Store.sub_refl _) ⟨by simp only;omega,Store.sub_refl _,.nil⟩ ?_
 rintro ⟨k,v,s⟩ ⟨hk,hs,ho'⟩
 simp only at hk hs ho'
 simp only [↓vcPre,↓z8,↓reduceIte,vcPost,vcStd,Nat.reduceEqDiff,reduceCtorEq,Nat.reduceAdd,Nat.reduceLeDiff,Int.reduceLT,Int.reduceLE,↓u_setN]
 refine ⟨fun c1 => ?_,fun c1 => ?_⟩
 ·have ek:IntKind.i64.wrap ((k:Int)+1)=((k+1:Nat):Int):=by rw [zd (by unfold I64;omega)];omega
  refine ⟨c1,by simp [Seg.c],?_⟩
  refine AllocQ.i0 fun i hi => ?_
  simp only [Seg.c,Store.set_set,↓vcPre,↓z8,↓reduceIte,vcPost,vcStd,Nat.reduceEqDiff,reduceCtorEq,Nat.reduceAdd,Nat.reduceLeDiff,Int.reduceLT,Int.reduceLE,↓u_setN]
  refine (zhv _ (by have:=ho _ (List.getElem_mem c1);unfold Seg.ok at this;omega)).q' ?_
  simp only [Store.set_set,↓vcPre,↓z8,↓reduceIte,vcPost,vcStd,Nat.reduceEqDiff,reduceCtorEq,Nat.reduceAdd,Nat.reduceLeDiff,Int.reduceLT,Int.reduceLE,↓u_setN]
  refine AllocQ.i1 fun j hj1 hj2 hj => ?_
  simp only [↓vcPre,↓z8,↓reduceIte,vcPost,vcStd,Nat.reduceEqDiff,reduceCtorEq,Nat.reduceAdd,Nat.reduceLeDiff,Int.reduceLT,Int.reduceLE,↓u_setN]
  refine Own.app (τ:=σ) (L:=(p.take k).map Seg.c) (Store.sub_trans hs (y0 hi hj hj1)) (ho'.mono (y0 hi hj hj1)) (zq (Store.set_same _ _ _) rfl) (by simp;omega) fun v' s' hs' ho'' => ?_
  rw [ek]
  refine NextQ.to (k+1,v',s') rfl (Store.sub_refl _) (by simp only;omega) ⟨by simp only;omega,hs',?_⟩
  simp only [List.take_add_one,List.getElem?_eq_getElem c1,Option.toList_some,List.map_append,List.map_cons,List.map_nil]
  exact ho''
 ·have hkl:p.take k=p:=List.take_of_length_le (by omega)
  rw [hkl] at ho'
  exact EndQ.own rfl ho' hs ⟨rfl,rfl⟩
end Go.Am
namespace Go.Am.Tsc
open Go.Proofs Go.Am.B
def t74_15:BC:=z [f 15 8 1,l 16 1 15,g 17 135 [.t 16],g 18 134 [.t 17],g 19 133 [.t 18],f 20 8 1,s 1 20 19] [1,2] (z [⟨some 21,none,.load (.ld 9 true),[.t 1]⟩,s 9 2 21] [2] .ret)
def b74:BC:=z [⟨some 1,none,.alloc (.box),[.t 0]⟩,⟨some 2,none,.alloc (.alloc [(.int .i64 0),.nils,(.int .u32 0),(.bool false),(.int .u32 0),(.bool false),(.int .u32 0),(.bool false),.nils]),[]⟩] [1,2] (z [f 3 1 1,l 4 1 3,g 5 132 [.t 4],f 6 1 1,s 1 6 5] [1,2] (.seq (z [f 7 3 1,l 8 1 7,u 9 .not 8] [1,2,9] (.cond (.t 9) (.ops [f 10 4 1,⟨none,none,.loud (.st 1),[.t 10,.c (.int .u32 0)]⟩] [1,2]) .skip)) (.seq (z [f 11 5 1,l 12 1 11,u 13 .not 12] [1,2,13] (.cond (.t 13) (.ops [f 14 6 1,⟨none,none,.loud (.st 1),[.t 14,.c (.int .u32 0)]⟩] [1,2]) .skip)) t74_15)))
def F74:Fn Tryz.prog 74:=Fn.mkX false b74 [.c 2 9 true] 22 Tryz.f74 _ Tryz.func74 (by decide) rfl Tryz.ntmps74 (by kernel_rfl) (by kernel_rfl)
end Go.Am.Tsc
namespace Go.Am
open Go.Proofs Go.Sort
def leI (a b:Int):Bool:=decide (a≤b)
def canonC (l:List Int):List Int:=ddA (l.mergeSort leI)
theorem z43 {L zs:List Int} (hp:L.Perm zs) (hs:L.Pairwise (· ≤ ·)):L=zs.mergeSort leI:=by
 have h1:(zs.mergeSort leI).Pairwise (· ≤ ·):=by
  have:=List.pairwise_mergeSort (le:=leI) (fun a b c h1 h2=>by simp only [leI,decide_eq_true_eq] at *;omega) (fun a b=>by simp only [leI,Bool.or_eq_true,decide_eq_true_eq];omega) zs
  exact this.imp fun {a b} h=>by simpa [leI] using h
 refine List.Perm.eq_of_pairwise (le:=(· ≤ ·)) (fun a b _ _ h1 h2=>by omega) hs h1 (hp.trans (List.mergeSort_perm zs leI).symm)
theorem z6x {L zs:List Int} (hp:L.Perm zs) (hs:L.Pairwise (· ≤ ·)):ddA L=canonC zs:=by rw [canonC,←z43 hp hs]
theorem z4u:∀ l:List Int,(ddA l).length≤l.length
 | []=>by simp [ddA]
 | [a]=>by simp [ddA]
 | a::b::r=>by
   have:=z4u (b::r)
   simp only [ddA]
   split <;> simp at * <;> omega
theorem z5l (l:List Int):(canonC l).length≤l.length:=by
 have:=z4u (l.mergeSort leI)
 rw [List.length_mergeSort] at this
 exact this
def canonA (a:At):At:={ a with med:=if a.hm then a.med else 0,prf:=if a.hp then a.prf else 0,cms:=canonC a.cms }
def At.cO (a:At) (v:AV):List AV:=[.int .i64 a.org,.sl 2 (a.path.map Seg.c),.int .u32 a.nxt,.bool a.hm,.int .u32 a.med,.bool a.hp,.int .u32 a.prf,.bool a.atm,v]
theorem zg8 (σ:Store):ACalls Tryz.prog 133 [.nils] σ (fun r s=>r = .nils∧s=σ):=by
 refine ze Tst.F133 (by simp [Tst.F133,Fn.mkX]) ?_
 simp only [Tst.F133,Fn.mkX,Tst.b133]
 simp only [↓vcPre,↓z8,↓reduceIte,vcPost,vcStd,Nat.reduceEqDiff,reduceCtorEq,Nat.reduceAdd,Nat.reduceLeDiff,Int.reduceLT,Int.reduceLE,↓u_setN]
 exact EndQ.to _ _ rfl (Store.sub_refl _) ⟨rfl,rfl⟩
theorem z45 {σ τ:Store} {g:Nat} {o:Obj} (h:Store.sub σ τ):Store.sub (σ.set g o) (τ.set g o):=fun i q hi=>by
 simp only [Store.set] at hi ⊢
 split at hi
 ·rename_i e;rw [if_pos e];exact hi
 ·rename_i e;rw [if_neg e];exact h i q hi
theorem z6e (a:At) (hc:a.cms.length≤1000000) {σ t:Store} {b r:Nat} {z:List AV} {n rr:Env→Store→Prop} {x:Nat→Env→Store→Prop} (hb:t b=some (.box a.c)) (hr:t r=some (.box z)) (hz:z.length=9) (hbr:¬ b=r) (hsub:Store.sub σ t) (hσb:σ b=none) (hσr:σ r=none)
 (h0:∀ s,canonC a.cms=[]→Store.sub σ s→s r=some (.box (({ a with cms:=[] }:At).cO .nils))→rr [(2,.ptr r 0)] s)
 (h1:∀ s g,∀ M:List Int,σ g=none→(canonC a.cms).length≤M.length→M.take (canonC a.cms).length=canonC a.cms→Store.sub (σ.set g (.arr 1 (M.map cU))) s→s r=some (.box (({ a with cms:=[] }:At).cO (.os g 1 0 (canonC a.cms).length)))→rr [(2,.ptr r 0)] s) :
 bwp Tryz.prog Tsc.t74_15 [(1,.ptr b 0),(2,.ptr r 0)] t n rr x:=by
 simp only [Tsc.t74_15]
 have hrb:¬ r=b:=fun e=>hbr e.symm
 simp only [hb,At.c,↓vcPre,↓z8,↓reduceIte,vcPost,vcStd,Nat.reduceEqDiff,reduceCtorEq,Nat.reduceAdd,Nat.reduceLeDiff,Int.reduceLT,Int.reduceLE,↓u_setN]
 refine (zii _ ⟨rfl,rfl⟩ t).Q ?_
 rintro f s ⟨i,hi,rfl,rfl⟩
 have hib:¬ b=i:=fun e=>by subst e;rw [hb] at hi;cases hi
 have hir:¬ r=i:=fun e=>by subst e;rw [hr] at hi;cases hi
 simp only [hib,hir,↓vcPre,↓z8,↓reduceIte,vcPost,vcStd,Nat.reduceEqDiff,reduceCtorEq,Nat.reduceAdd,Nat.reduceLeDiff,Int.reduceLT,Int.reduceLE,↓u_setN]
 refine (zih (Store.set_same _ _ _) (zs:=a.cms) (by simp [slc]) (by omega)).Q ?_
 rintro f s (⟨hz0,rfl,rfl⟩ | ⟨hz0,g,L,hg,hp,hl,rfl,rfl⟩)
 ·simp only [hib,hir,↓vcPre,↓z8,↓reduceIte,vcPost,vcStd,Nat.reduceEqDiff,reduceCtorEq,Nat.reduceAdd,Nat.reduceLeDiff,Int.reduceLT,Int.reduceLE,↓u_setN]
  refine (zg8 _).Q ?_
  rintro f s ⟨rfl,rfl⟩
  simp only [hib,hir,hb,hr,hbr,hrb,At.c,hz,↓vcPre,↓z8,↓reduceIte,vcPost,vcStd,Nat.reduceEqDiff,reduceCtorEq,Nat.reduceAdd,Nat.reduceLeDiff,Int.reduceLT,Int.reduceLE,↓u_setN]
  rw [xl _ _ (by simp [hz]),y7]
  refine h0 _ (by rw [hz0];simp [canonC,ddA]) (zb (zb (zb hsub (zo hsub hi)) hσb) hσr) (Store.set_same _ _ _)
 ·have hgb:¬ b=g:=fun e=>by subst e;rw [Store.set_ne _ _ hib,hb] at hg;cases hg
  have hgr:¬ r=g:=fun e=>by subst e;rw [Store.set_ne _ _ hir,hr] at hg;cases hg
  simp only [hib,hir,↓vcPre,↓z8,↓reduceIte,vcPost,vcStd,Nat.reduceEqDiff,reduceCtorEq,Nat.reduceAdd,Nat.reduceLeDiff,Int.reduceLT,Int.reduceLE,↓u_setN]
  refine (zig (Store.set_same _ _ _) (by rw [hp.length_eq];omega)).Q ?_
  rintro f s ⟨M,m1,m2,m3,rfl,rfl⟩
  simp only [hib,hir,hb,hr,hbr,hrb,hgb,hgr,At.c,hz,↓vcPre,↓z8,↓reduceIte,vcPost,vcStd,Nat.reduceEqDiff,reduceCtorEq,Nat.reduceAdd,Nat.reduceLeDiff,Int.reduceLT,Int.reduceLE,↓u_setN]
  rw [xl _ _ (by simp [hz]),y7]
  have hcn:=z6x hp hl
  have hσi:=zo hsub hi
  have hσg:σ g=none:=by
   cases h:σ g with
   | none=>rfl
   | some o=>rw [zb hsub hσi g o h] at hg;cases hg
  rw [hcn] at m2 m3 ⊢
  refine h1 _ g M hσg (by omega) m2 ?_ (Store.set_same _ _ _)
  rw [Store.set_set]
  exact zb (zb (z45 (zb hsub hσi)) (by rw [Store.set_ne _ _ hgb];exact hσb)) (by rw [Store.set_ne _ _ hgr];exact hσr)
theorem s74 (a:At) (h:a.ok) (σ:Store):ACalls Tryz.prog 74 [.agg a.c] σ (fun r s=>(canonC a.cms=[]∧r = .agg ((canonA a).cO .nils)∧s=σ) ∨
 ∃ g,∃ M:List Int,σ g=none∧(canonC a.cms).length≤M.length∧M.take (canonC a.cms).length=canonC a.cms∧r = .agg ((canonA a).cO (.os g 1 0 (canonC a.cms).length))∧s=σ.set g (.arr 1 (M.map cU))):=by
 refine ze Tsc.F74 (by simp [Tsc.F74,Fn.mkX]) ?_
 simp only [Tsc.F74,Fn.mkX,Tsc.b74]
 simp only [At.c,↓vcPre,↓z8,↓reduceIte,vcPost,vcStd,Nat.reduceEqDiff,reduceCtorEq,Nat.reduceAdd,Nat.reduceLeDiff,Int.reduceLT,Int.reduceLE,↓u_setN]
 refine AllocQ.i0 fun b hb => ?_
 simp only [At.c,↓vcPre,↓z8,↓reduceIte,vcPost,vcStd,Nat.reduceEqDiff,reduceCtorEq,Nat.reduceAdd,Nat.reduceLeDiff,Int.reduceLT,Int.reduceLE,↓u_setN]
 refine AllocQ.i1 fun r hr1 hr2 hr => ?_
 simp only [hr1,hr2,↓vcPre,↓z8,↓reduceIte,vcPost,vcStd,Nat.reduceEqDiff,reduceCtorEq,Nat.reduceAdd,Nat.reduceLeDiff,Int.reduceLT,Int.reduceLE,↓u_setN]
 refine (zho a.path h.1 h.2.1).Q ?_
 have hsb:∀ X Y Z:Obj,Store.sub σ (((σ.set b X).set r Y).set b Z):=fun X Y Z=>zb (y0 hb hr hr1) hb
 cases hm:a.hm <;> cases hp:a.hp
 all_goals
  simp only [hr1,hr2,Store.set_set,hm,hp,↓vcPre,↓z8,↓reduceIte,vcPost,vcStd,Nat.reduceEqDiff,reduceCtorEq,Nat.reduceAdd,Nat.reduceLeDiff,Int.reduceLT,Int.reduceLE,↓u_setN]
  refine z6e { a with med:=if a.hm then a.med else 0,prf:=if a.hp then a.prf else 0 } h.2.2 (by simp [At.c,hm,hp]) (by rw [Store.set_ne _ _ hr1,Store.set_same]) rfl hr2 (hsb _ _ _) hb hr ?_ ?_
  ·intro s hcz hss hsr
   refine EndQ.to σ (.agg ((canonA a).cO .nils)) ?_ hss (.inl ⟨hcz,rfl,rfl⟩)
   show Env.res [(2,AV.ptr r 0)] s [RS.c 2 9 true]=_
   simp only [hsr,At.cO,canonA,hm,hp,↓vcPre,↓z8,↓reduceIte,vcPost,vcStd,Nat.reduceEqDiff,reduceCtorEq,Nat.reduceAdd,Nat.reduceLeDiff,Int.reduceLT,Int.reduceLE,↓u_setN]
  ·intro s g M m1 m2 m3 m4 hsr
   refine EndQ.to (σ.set g (.arr 1 (M.map cU))) (.agg ((canonA a).cO (.os g 1 0 (canonC a.cms).length))) ?_ m4 (.inr ⟨g,M,m1,m2,m3,rfl,rfl⟩)
   show Env.res [(2,AV.ptr r 0)] s [RS.c 2 9 true]=_
   simp only [hsr,At.cO,canonA,hm,hp,↓vcPre,↓z8,↓reduceIte,vcPost,vcStd,Nat.reduceEqDiff,reduceCtorEq,Nat.reduceAdd,Nat.reduceLeDiff,Int.reduceLT,Int.reduceLE,↓u_setN]
theorem c74 (a:At) (h:a.ok):Pur Tryz.prog 74 [.agg a.c] (.agg (canonA a).c):=by
 intro σ
 refine (s74 a h σ).weakRes ?_
 rintro r s (⟨hz,rfl,rfl⟩ | ⟨g,M,m1,m2,m3,rfl,rfl⟩)
 ·refine Weak.agg (WeakL.nil 8 1 rfl (WeakL.pure ⟨?_,rfl,?_⟩))
  ·intro c hc
   simp [At.cO] at hc
   rcases hc with rfl | rfl | rfl | rfl | rfl | rfl | rfl | rfl | rfl <;> rfl
  ·simp [At.cO,At.c,canonA,hz]
 ·refine Weak.agg (WeakL.freeze 8 rfl (Store.set_same _ _ _) (by simpa using m2) (WeakL.forget (fun i o hi => ?_) (WeakL.pure ⟨?_,rfl,?_⟩)))
  ·have:i≠g:=fun e=>by subst e;rw [m1] at hi;cases hi
   rw [Store.del_ne _ this,Store.set_ne _ _ this];exact hi
  ·intro c hc
   simp [At.cO] at hc
   rcases hc with rfl | rfl | rfl | rfl | rfl | rfl | rfl | rfl | rfl <;> rfl
  ·simp only [At.cO,At.c,canonA,List.set_cons_succ,List.set_cons_zero,List.drop_zero,←List.map_take,m3]
end Go.Am
namespace Go.Am
open Go.Proofs Go.Sort
def truthF (b:Bool):Int:=if b then 1 else 0
def orL:List Int→Int
 | []=>0
 | x::r=>if x=0 then orL r else x
def cI (x:Int):List AV:=[.int .i64 x]
def cmpG {α:Type} (f:α→α→Int):List α→List α→Int
 | [],[]=>0
 | [],_::_ => -1
 | _::_,[]=>1
 | a::r,b::s=>if f a b=0 then cmpG f r s else f a b
def cmpSeg (a b:Seg):Int:=orL [cmpI a.kind b.kind,cmpI a.ls.length b.ls.length,cmpG cmpI a.ls b.ls]
def cmpPath (a b:List Seg):Int:=cmpG cmpSeg a b
def cmpAs (a b:At):Int:=orL [cmpI a.org b.org,cmpPath a.path b.path,cmpI a.nxt b.nxt,IntKind.i64.wrap (truthF a.hm - truthF b.hm),cmpI a.med b.med,IntKind.i64.wrap (truthF a.hp - truthF b.hp),cmpI a.prf b.prf,IntKind.i64.wrap (truthF a.atm - truthF b.atm),cmpG cmpI a.cms b.cms]
theorem qr {a:At} (h:a.ok):(canonA a).ok:=⟨h.1,h.2.1,Nat.le_trans (z5l _) h.2.2⟩
end Go.Am
namespace Go.Am
open Go.Proofs Go.Sort
theorem cmpI_z {x y:Int}:cmpI x y=0↔x=y:=ya x y
theorem z17 {α:Type} {f:α→α→Int}:∀ (l m:List α),(∀ a ∈ l,∀ b ∈ m,f a b=0↔a=b)→(cmpG f l m=0↔l=m)
 | [],[],_=>by simp [cmpG]
 | [],_::_,_=>by simp [cmpG]
 | _::_,[],_=>by simp [cmpG]
 | a::r,b::s,h=>by
   have h1:=h a (by simp) b (by simp)
   have h2:=z17 r s (fun x hx y hy=>h x (by simp [hx]) y (by simp [hy]))
   simp only [cmpG]
   split
   ·rename_i h0
    rw [h2,h1.1 h0];simp
   ·rename_i h0
    constructor
    ·intro h3;exact absurd h3 h0
    ·intro h3;exact absurd (h1.2 (List.cons.inj h3).1) h0
theorem z65:∀ (l:List Int),orL l=0↔∀ x ∈ l,x=0
 | []=>by simp [orL]
 | x::r=>by
   have:=z65 r
   simp only [orL]
   split
   ·rename_i h;rw [this];simp [h]
   ·rename_i h;simp [h]
theorem z3c {a b:Seg}:cmpSeg a b=0↔a=b:=by
 unfold cmpSeg
 rw [z65]
 simp only [List.mem_cons,List.not_mem_nil,or_false,forall_eq_or_imp,forall_eq]
 rw [cmpI_z,cmpI_z,z17 _ _ (fun _ _ _ _=>cmpI_z)]
 constructor
 ·rintro ⟨h1,_,h3⟩
  cases a;cases b;simp_all
 ·rintro rfl;exact ⟨rfl,rfl,rfl⟩
theorem z6y {a b:List Seg}:cmpPath a b=0↔a=b:=z17 _ _ fun _ _ _ _=>z3c
theorem yn {a b:Bool}:IntKind.i64.wrap (truthF a - truthF b)=0↔a=b:=by
 cases a <;> cases b <;> decide
theorem zaq {a b:At}:cmpAs a b=0↔a=b:=by
 unfold cmpAs
 rw [z65]
 simp only [List.mem_cons,List.not_mem_nil,or_false,forall_eq_or_imp,forall_eq]
 rw [cmpI_z,z6y,cmpI_z,yn,cmpI_z,yn,cmpI_z,yn,z17 _ _ (fun _ _ _ _=>cmpI_z)]
 constructor
 ·rintro ⟨h1,h2,h3,h4,h5,h6,h7,h8,h9⟩
  cases a;cases b;simp_all
 ·rintro rfl;exact ⟨rfl,rfl,rfl,rfl,rfl,rfl,rfl,rfl,rfl⟩
instance:DecidableEq Seg:=fun a b=>decidable_of_iff (cmpSeg a b=0) z3c
instance:DecidableEq At:=fun a b=>decidable_of_iff (cmpAs a b=0) zaq
def Inc (l:List Int):Prop:=l.Pairwise (· < ·)
theorem z1v (x:Int):∀ l:List Int,x ∈ ddA l↔x ∈ l
 | []=>by simp [ddA]
 | [a]=>by simp [ddA]
 | a::b::r=>by
   have:=z1v x (b::r)
   simp only [ddA]
   split
   ·rename_i h;subst h;rw [this];simp
   ·simp only [List.mem_cons] at *;rw [this]
theorem z4t:∀ l:List Int,l.Pairwise (· ≤ ·)→Inc (ddA l)
 | [],_ => .nil
 | [a],_=>by simp [ddA,Inc]
 | a::b::r,h=>by
   obtain ⟨h1,h2⟩:=List.pairwise_cons.1 h
   have ih:=z4t (b::r) h2
   simp only [ddA]
   split
   ·exact ih
   ·rename_i hab
    refine List.pairwise_cons.2 ⟨fun x hx => ?_,ih⟩
    have hx':=(z1v x (b::r)).1 hx
    have h3:=h1 b (by simp)
    rcases List.mem_cons.1 hx' with rfl | hx''
    ·omega
    ·have h4:=(List.pairwise_cons.1 h2).1 x hx''
     omega
theorem z5m {l:List Int} {x:Int}:x ∈ canonC l↔x ∈ l:=by
 rw [canonC,z1v,(List.mergeSort_perm l leI).mem_iff]
theorem z5k (l:List Int):Inc (canonC l):=z4t _ (by
 have:=List.pairwise_mergeSort (le:=leI) (fun a b c h1 h2=>by simp only [leI,decide_eq_true_eq] at *;omega) (fun a b=>by simp only [leI,Bool.or_eq_true,decide_eq_true_eq];omega) l
 exact this.imp fun {a b} h=>by simpa [leI] using h)
theorem zb7 {l m:List Int} (hl:Inc l) (hm:Inc m) (h:∀ x,x ∈ l↔x ∈ m):l=m:=by
 have nd:∀ l:List Int,Inc l→l.Nodup:=fun l h=>h.imp fun {a b} h e=>by omega
 refine List.Perm.eq_of_pairwise (le:=(· < ·)) (fun a b _ _ h1 h2=>by omega) hl hm ((List.perm_ext_iff_of_nodup (nd l hl) (nd m hm)).2 h)
end Go.Am
namespace Go.Am
structure PO {α:Type} (f:α→α→Int):Prop where
 anti:∀ a b,f b a<0↔0<f a b
 tr:∀ a b c,f a b≤0→f b c≤0→f a c≤0
theorem PO.z {α:Type} {f:α→α→Int} (h:PO f) {a b:α} (e:f a b=0):f b a=0:=by
 have h1:=h.anti a b;have h2:=h.anti b a;omega
theorem PO.lt {α:Type} {f:α→α→Int} (h:PO f) {a b c:α} (h1:f a b<0) (h2:f b c≤0):f a c<0:=by
 apply Classical.byContradiction;intro hn
 have a1:=h.anti a c;have a2:=h.anti c a;have a3:=h.anti a b;have a4:=h.anti b a
 have:=h.tr b c a h2 (by omega)
 omega
theorem PO.lt' {α:Type} {f:α→α→Int} (h:PO f) {a b c:α} (h1:f a b≤0) (h2:f b c<0):f a c<0:=by
 apply Classical.byContradiction;intro hn
 have a1:=h.anti a c;have a2:=h.anti c a;have a3:=h.anti b c;have a4:=h.anti c b
 have:=h.tr c a b (by omega) h1
 omega
def lex {α:Type} (f g:α→α→Int) (a b:α):Int:=if f a b=0 then g a b else f a b
theorem PO.lex {α:Type} {f g:α→α→Int} (hf:PO f) (hg:PO g):PO (lex f g) where
 anti a b:=by
  have h1:=hf.anti a b;have h2:=hf.anti b a;have h3:=hg.anti a b
  unfold Am.lex
  by_cases e:f a b=0
  ·rw [if_pos e,if_pos (hf.z e)];exact h3
  ·rw [if_neg e,if_neg (fun e'=>e (hf.z e'))];exact h1
 tr a b c:=by
  unfold Am.lex
  intro h1 h2
  by_cases e1:f a b=0 <;> by_cases e2:f b c=0
  ·rw [if_pos e1] at h1;rw [if_pos e2] at h2
   have h3:=hf.tr a b c (by omega) (by omega)
   have h4:=hf.tr c b a (by rw [hf.z e2];omega) (by rw [hf.z e1];omega)
   have h5:=hf.anti a c;have h6:=hf.anti c a
   rw [if_pos (by omega)];exact hg.tr a b c h1 h2
  ·rw [if_neg e2] at h2
   have:=hf.lt' (a:=a) (b:=b) (c:=c) (by omega) (by omega)
   rw [if_neg (by omega)];omega
  ·rw [if_neg e1] at h1
   have:=hf.lt (a:=a) (b:=b) (c:=c) (by omega) (by omega)
   rw [if_neg (by omega)];omega
  ·rw [if_neg e1] at h1;rw [if_neg e2] at h2
   have:=hf.lt (a:=a) (b:=b) (c:=c) (by omega) (by omega)
   rw [if_neg (by omega)];omega
theorem PO.key {α β:Type} {f:β→β→Int} (k:α→β) (h:PO f):PO fun a b=>f (k a) (k b):=⟨fun _ _=>h.anti _ _,fun _ _ _=>h.tr _ _ _⟩
theorem PO.cmpI:PO cmpI:=⟨fun a b=>by unfold Am.cmpI;split <;> split <;> (try split) <;> (try split) <;> omega,fun a b c=>by unfold Am.cmpI;split <;> split <;> (try split) <;> (try split) <;> (try split) <;> omega⟩
theorem PO.truth:PO fun a b:Bool=>IntKind.i64.wrap (truthF a - truthF b):=⟨by decide,by decide⟩
theorem PO.zero {α:Type}:PO fun _ _:α=>(0:Int):=⟨fun _ _=>by omega,fun _ _ _ _ _=>by omega⟩
theorem PO.list {α:Type} {f:α→α→Int} (h:PO f):PO (cmpG f) where
 anti:=by
  intro a
  induction a with
  | nil=>intro b;cases b <;> simp [cmpG]
  | cons x r ih =>
    intro b
    cases b with
    | nil=>simp [cmpG]
    | cons y s =>
      have h1:=h.anti x y;have h2:=h.anti y x
      simp only [cmpG]
      by_cases e:f x y=0
      ·rw [if_pos e,if_pos (h.z e)];exact ih s
      ·rw [if_neg e,if_neg (fun e'=>e (h.z e'))];exact h1
 tr:=by
  intro a
  induction a with
  | nil=>intro b c _ _;cases c <;> simp [cmpG]
  | cons x r ih =>
    intro b c
    cases b with
    | nil=>intro h1;simp [cmpG] at h1
    | cons y s =>
      cases c with
      | nil=>intro _ h2;simp [cmpG] at h2
      | cons z t =>
        simp only [cmpG]
        intro h1 h2
        by_cases e1:f x y=0 <;> by_cases e2:f y z=0
        ·rw [if_pos e1] at h1;rw [if_pos e2] at h2
         have h3:=h.tr x y z (by omega) (by omega)
         have h4:=h.tr z y x (by rw [h.z e2];omega) (by rw [h.z e1];omega)
         have h5:=h.anti x z;have h6:=h.anti z x
         rw [if_pos (by omega)];exact ih s t h1 h2
        ·rw [if_neg e2] at h2
         have:=h.lt' (a:=x) (b:=y) (c:=z) (by omega) (by omega)
         rw [if_neg (by omega)];omega
        ·rw [if_neg e1] at h1
         have:=h.lt (a:=x) (b:=y) (c:=z) (by omega) (by omega)
         rw [if_neg (by omega)];omega
        ·rw [if_neg e1] at h1;rw [if_neg e2] at h2
         have:=h.lt (a:=x) (b:=y) (c:=z) (by omega) (by omega)
         rw [if_neg (by omega)];omega
theorem PO.congr {α:Type} {f g:α→α→Int} (h:PO f) (e:∀ a b,g a b=f a b):PO g:=⟨fun a b=>by rw [e,e];exact h.anti a b,fun a b c=>by rw [e,e,e];exact h.tr a b c⟩
theorem PO.seg:PO cmpSeg:=by
 refine (PO.lex (PO.key Seg.kind PO.cmpI) (PO.lex (PO.key (fun s:Seg=>(s.ls.length:Int)) PO.cmpI) (PO.lex (PO.key Seg.ls PO.cmpI.list) PO.zero))).congr fun a b => ?_
 simp only [cmpSeg,orL];rfl
theorem PO.path:PO cmpPath:=PO.seg.list
theorem PO.at:PO cmpAs:=by
 refine (PO.lex (PO.key At.org PO.cmpI) (PO.lex (PO.key At.path PO.path) (PO.lex (PO.key At.nxt PO.cmpI) (PO.lex (PO.key At.hm PO.truth) (PO.lex (PO.key At.med PO.cmpI) (PO.lex (PO.key At.hp PO.truth) (PO.lex (PO.key At.prf PO.cmpI) (PO.lex (PO.key At.atm PO.truth) (PO.lex (PO.key At.cms PO.cmpI.list) PO.zero))))))))).congr fun a b => ?_
 simp only [cmpAs,orL];rfl
end Go.Am
namespace Go.Am
theorem zz (s:Store) (i:Nat):Store.sub (s.del i) s:=fun j o hj=>by
 by_cases e:j=i
 ·subst e;simp at hj
 ·rw [Store.del_ne _ e] at hj;exact hj
end Go.Am
namespace Go.Am
open Go.Proofs Go.Sort
def zCells:List AV:=[.int .i64 0,.nils,.int .u32 0,.bool false,.int .u32 0,.bool false,.int .u32 0,.bool false,.nils]
def zeroAt:At:=⟨0,[],0,false,0,false,0,false,[]⟩
end Go.Am
namespace Go.Am
def b4 (n:Int):List Int:=[n / 16777216 % 256,n / 65536 % 256,n / 256 % 256,n % 256]
def n4 (a b c d:Int):Int:=((a*256+b)*256+c)*256+d
def U8s (l:List Int):Prop:=∀ x ∈ l,0≤x∧x<256
theorem z16 (n:Int):U8s (b4 n):=by
 intro x hx
 simp only [b4,List.mem_cons,List.not_mem_nil,or_false] at hx
 omega
theorem U8s.append {l m:List Int} (h:U8s l) (h':U8s m):U8s (l++m):=fun x hx=>(List.mem_append.1 hx).elim (h x) (h' x)
theorem U8s.take {l:List Int} (h:U8s l) (n:Nat):U8s (l.take n):=fun x hx=>h x (List.mem_of_mem_take hx)
theorem U8s.drop {l:List Int} (h:U8s l) (n:Nat):U8s (l.drop n):=fun x hx=>h x (List.mem_of_mem_drop hx)
def words:Nat→List Int→List Int
 | n+1,a::b::c::d::r=>n4 a b c d::words n r
 | _,_=>[]
theorem w5:∀ (n:Nat) (l:List Int),4*n≤l.length→(words n l).length=n
 | 0,l,_=>by cases l <;> simp [words]
 | n+1,[],h=>by simp at h
 | n+1,[_],h=>by simp at h;omega
 | n+1,[_,_],h=>by simp at h;omega
 | n+1,[_,_,_],h=>by simp at h;omega
 | n+1,a::b::c::d::r,h=>by simp only [words,List.length_cons];rw [w5 n r (by simp at h;omega)]
def encW (l:List Int):List Int:=l.flatMap b4
theorem xr (l:List Int):(encW l).length=4*l.length:=by
 induction l with
 | nil=>rfl
 | cons x r ih=>simp only [encW,List.flatMap_cons,List.length_append] at *;rw [ih];simp [b4];omega
def encSeg (s:Seg):List Int:=[s.kind % 256,(s.ls.length:Int) % 256]++encW s.ls
def encPath (l:List Seg):List Int:=l.flatMap encSeg
def segRight (s:Seg):Prop:=(s.kind=1∨s.kind=2)∧1≤s.ls.length∧s.ls.length≤255
instance (s:Seg):Decidable (segRight s):=inferInstanceAs (Decidable (_∧_∧_))
def pathRight (l:List Seg):Prop:=(∀ s ∈ l,segRight s)∧l.length≤16
instance (l:List Seg):Decidable (pathRight l):=inferInstanceAs (Decidable (_∧_))
def segs:Nat→List Int→Option (List Seg)
 | 0,b=>if b=[] then some [] else none
 | _+1,[]=>some []
 | _+1,[_]=>none
 | f+1,k::n::r=>if (r.length:Int)<4*n then none else (segs f (r.drop (4*n.toNat))).map (⟨k,words n.toNat r⟩ :: ·)
def decPath (b:List Int):Option (List Seg):=match segs b.length b with
 | some l=>if pathRight l then some l else none
 | none=>none
theorem z2p:∀ (f g:Nat) (b:List Int),b.length≤f→b.length≤g→segs f b=segs g b
 | 0,0,_,_,_=>rfl
 | 0,g+1,[],_,_=>by simp [segs]
 | 0,g+1,_::_,h,_=>by simp at h
 | f+1,0,[],_,_=>by simp [segs]
 | f+1,0,_::_,_,h=>by simp at h
 | f+1,g+1,[],_,_=>by simp [segs]
 | f+1,g+1,[_],_,_=>by simp [segs]
 | f+1,g+1,k::n::r,h1,h2=>by
   simp only [segs]
   split
   ·rfl
   ·rw [z2p f g _ (by simp at h1 ⊢;omega) (by simp at h2 ⊢;omega)]
def oneA (fl kind:Int) (v:List Int):List Int :=
 (if 255<v.length then [fl+16,kind,(v.length:Int) / 256 % 256,(v.length:Int) % 256] else [fl,kind,(v.length:Int)])++v
def encA (a:At):List Int :=
 oneA 64 1 [a.org % 256]++oneA 64 2 (encPath a.path)++oneA 64 3 (b4 a.nxt)++(if a.hm then oneA 128 4 (b4 a.med) else [])++(if a.hp then oneA 64 5 (b4 a.prf) else []) ++
  (if a.atm then oneA 64 6 [] else [])++(if a.cms=[] then [] else oneA 192 8 (encW a.cms))
def goodN (n:Int):Prop:=n / 16777216≠0∧n / 16777216≠127∧n / 16777216<224
instance (n:Int):Decidable (goodN n):=inferInstanceAs (Decidable (_∧_∧_))
def atRight (a:At):Prop:=(0≤a.org∧a.org≤2)∧pathRight a.path∧goodN a.nxt∧(a.hm=false→a.med=0)∧(a.hp=false→a.prf=0)∧a.cms.length≤32∧Inc a.cms
structure Ch where
 fl:Int
 kind:Int
 val:List Int
 all:List Int
 rest:List Int
def andI (a b:Int):Int:=bitInt .and .i64 a b
def chunk:List Int→Option Ch
 | f::k::h::r =>
   if andI f 16=0 then (if (r.length:Int)<h then none else some ⟨f,k,r.take h.toNat,(f::k::h::r).take (3+h.toNat),r.drop h.toNat⟩)
   else match r with
    | l::r'=>if (r'.length:Int)<h*256+l then none else some ⟨f,k,r'.take (h*256+l).toNat,(f::k::h::r).take (4+(h*256+l).toNat),r'.drop (h*256+l).toNat⟩
    | []=>none
 | _=>none
def wantOf (k:Int):Int:=if k=1∨k=2∨k=3∨k=5∨k=6 then 64 else if k=4 then 128 else if k=8 then 192 else 0
def fitsOf (k:Int) (n:Nat):Prop:=(k=1→n=1)∧(k=3∨k=4∨k=5→n=4)∧(k=6→n=0)∧(k=8→n % 4=0)
instance (k:Int) (n:Nat):Decidable (fitsOf k n):=inferInstanceAs (Decidable (_∧_∧_∧_))
abbrev Nt:=Int×List Int
def valA (c:Ch) (a:At):Except Nt At :=
 if c.kind=1 then (if 2<c.val.headD 0 then .error (6,c.all) else .ok { a with org:=c.val.headD 0 })
 else if c.kind=2 then (match decPath c.val with | some l => .ok { a with path:=l } | none => .error (11,[]))
 else if c.kind=3 then (if goodN ((words 1 c.val).headD 0) then .ok { a with nxt:=(words 1 c.val).headD 0 } else .error (8,c.all))
 else if c.kind=4 then .ok { a with hm:=true,med:=(words 1 c.val).headD 0 }
 else if c.kind=5 then .ok { a with hp:=true,prf:=(words 1 c.val).headD 0 }
 else if c.kind=6 then .ok { a with atm:=true }
 else (if 32<c.val.length / 4 then .error (9,c.all) else .ok { a with cms:=words (c.val.length / 4) c.val })
def stepA (c:Ch) (a:At):Except Nt At :=
 if wantOf c.kind=0 then (if andI c.fl 128=0 then .error (2,c.all) else .ok a)
 else if andI c.fl 192≠wantOf c.kind∨andI c.fl 32≠0∧c.kind≠8 then .error (4,c.all)
 else if ¬ fitsOf c.kind c.val.length then .error (5,c.all)
 else valA c a
def decL (inner:Bool):Nat→List Int→At→List Int→List Int→Except Nt (At×List Int)
 | _,[],a,_,ty => .ok (a,ty)
 | 0,_::_,_,_,_ => .error (1,[])
 | f+1,x::r,a,seen,ty=>match chunk (x::r) with
   | none => .error (1,[])
   | some c=>if c.kind ∈ seen then .error (1,[])
     else if c.kind=5∧inner=false then decL inner f c.rest a (c.kind::seen) ty
     else match stepA c a with
      | .error n => .error n
      | .ok a'=>decL inner f c.rest a' (c.kind::seen) (ty++[c.kind])
theorem u7 {b:List Int} {c:Ch} (h:chunk b=some c):c.rest.length<b.length:=by
 unfold chunk at h
 split at h
 ·split at h
  ·split at h
   ·cases h
   ·cases h;simp;omega
  ·split at h
   ·split at h
    ·cases h
    ·cases h;simp;omega
   ·cases h
 ·cases h
theorem qs (inner:Bool):∀ (f g:Nat) (b:List Int) (a:At) (seen ty:List Int),b.length≤f→b.length≤g→decL inner f b a seen ty=decL inner g b a seen ty
 | 0,0,_,_,_,_,_,_=>rfl
 | 0,g+1,[],_,_,_,_,_=>by simp [decL]
 | 0,g+1,_::_,_,_,_,h,_=>by simp at h
 | f+1,0,[],_,_,_,_,_=>by simp [decL]
 | f+1,0,_::_,_,_,_,_,h=>by simp at h
 | f+1,g+1,[],_,_,_,_,_=>by simp [decL]
 | f+1,g+1,x::r,a,seen,ty,h1,h2=>by
   simp only [decL]
   cases hc:chunk (x::r) with
   | none=>rfl
   | some c =>
     have hl:=u7 hc
     simp only
     split
     ·rfl
     ·split
      ·exact qs inner f g _ _ _ _ (by simp at h1 hl;omega) (by simp at h2 hl;omega)
      ·split
       ·rfl
       ·exact qs inner f g _ _ _ _ (by simp at h1 hl;omega) (by simp at h2 hl;omega)
def decA (inner:Bool) (b:List Int):Except Nt (At×List Int):=match decL inner b.length b zeroAt [] [] with
 | .error n => .error n
 | .ok (a,ty) => .ok (canonA a,ty.mergeSort leI)
end Go.Am
namespace Go.Am
open Go.Proofs Go.Sort
def cB (n:Int):List AV:=[.int .u8 n]
def WI (τ:Store) (id:Nat) (L:List Int) (s:Store):Prop:=τ id=none∧Store.sub τ s∧∃ v,s id=some (.box [v])∧Own 1 τ (L.map cB) v s
theorem WI.mono {τ s s':Store} {id:Nat} {L:List Int} (h:WI τ id L s) (hs:Store.sub s s'):WI τ id L s':=by
 obtain ⟨h1,h2,v,h3,h4⟩:=h
 exact ⟨h1,Store.sub_trans h2 hs,v,hs _ _ h3,h4.mono hs⟩
theorem zdn (σ:Store):ACalls Tryz.prog 106 [] σ (fun r s=>∃ id,r = .ptr id 0∧WI σ id [] s):=by
 refine ze Tst.F106 (by simp [Tst.F106,Fn.mkX]) ?_
 simp only [Tst.F106,Fn.mkX,Tst.b106]
 simp only [↓vcPre,↓z8,↓reduceIte,vcPost,vcStd,Nat.reduceEqDiff,reduceCtorEq,Nat.reduceAdd,Nat.reduceLeDiff,Int.reduceLT,Int.reduceLE,↓u_setN]
 refine AllocQ.i0 fun id hid => ?_
 simp only [↓vcPre,↓z8,↓reduceIte,vcPost,vcStd,Nat.reduceEqDiff,reduceCtorEq,Nat.reduceAdd,Nat.reduceLeDiff,Int.reduceLT,Int.reduceLE,↓u_setN]
 exact EndQ.to _ _ rfl (Store.sub_refl _) ⟨id,rfl,hid,Store.sub_set _ _ _ hid,.nils,Store.set_same _ _ _,.nil⟩
theorem WI.app1 {τ s:Store} {id b:Nat} {L:List Int} {x:Int} {v:AV} {K:AV→Store→Prop} (h1:τ id=none) (h2:Store.sub τ s) (h3:s id=some (.box [v])) (h4:Own 1 τ (L.map cB) v s) (hL:L.length≤100000000) (hb:s b=none)
 (h:∀ v' s',s' id=some (.box [v])→Own 1 τ ((L++[x]).map cB) v' s'→Store.sub τ s'→K v' s'):appwp 1 1 v (.os b 1 0 1) (s.set b (.arr 1 [cB x])) K:=by
 have hbi:¬ id=b:=fun e=>by subst e;rw [h3] at hb;cases hb
 have hsb:=Store.sub_set s b (.arr 1 [cB x]) hb
 obtain ⟨τ0,q1,q2,q3,q4⟩:∃ τ0,Store.sub τ τ0∧Store.sub τ0 s∧τ0 id=some (.box [v])∧Own 1 τ0 (L.map cB) v s:=by
  rcases h4 with ⟨hk,hv⟩ | ⟨g,hv,hg,hs⟩
  ·exact ⟨s,h2,Store.sub_refl _,h3,.inl ⟨hk,hv⟩⟩
  ·have hgi:¬ id=g:=fun e=>by subst e;rw [hs] at h3;cases h3
   exact ⟨s.del g,sub_del h2 hg,zz _ _,by rw [Store.del_ne _ hgi];exact h3,.inr ⟨g,hv,by simp,hs⟩⟩
 refine Own.app (τ:=τ0) (Store.sub_trans q2 hsb) (q4.mono hsb) (zq (Store.set_same _ _ _) rfl) (by simp;omega) fun v' s' hs' ho' => ?_
 refine h v' s' (hs' _ _ q3) ?_ (Store.sub_trans q1 hs')
 rw [List.map_append];exact ho'.weak q1
theorem Own.setId {esz:Nat} {τ s:Store} {L:List (List AV)} {v:AV} {id:Nat} {o o':Obj} (h:Own esz τ L v s) (hid:s id=some o) (ho:∀ M,o ≠ .arr esz M):Own esz τ L v (s.set id o'):=by
 rcases h with h | ⟨g,h1,h2,h3⟩
 ·exact .inl h
 ·have hgi:¬ g=id:=fun e=>by rw [e,hid] at h3;cases h3;exact ho _ rfl
  exact .inr ⟨g,h1,h2,by rw [Store.set_ne _ _ hgi];exact h3⟩
theorem Own.cell {esz:Nat} {τ s:Store} {L:List (List AV)} {v:AV} (h:Own esz τ L v s):v.isTup=false∧v.cells=[v]:=by
 rcases h with ⟨_,rfl⟩ | ⟨g,rfl,_⟩ <;> exact ⟨rfl,rfl⟩
def beN:Nat→Int→List Int
 | 0,_=>[]
 | k+1,n=>IntKind.u8.wrap (shrInt .u64 n (8*(k:Int)))::beN k n
theorem z9s {τ s:Store} {id:Nat} {L:List Int} (h:WI τ id L s) (hL:L.length≤10000000) (n:Int) (k:Nat) (hk:k≤8):ACalls Tryz.prog 163 [.ptr id 0,.int .u64 n,.int .i64 (k:Int)] s (fun r s'=>r = .tup []∧WI τ id (L++beN k n) s'):=by
 refine ze Tst.F163 (by simp [Tst.F163,Fn.mkX]) ?_
 simp only [Tst.F163,Fn.mkX,Tst.b163]
 simp only [↓vcPre,↓z8,↓reduceIte,vcPost,vcStd,Nat.reduceEqDiff,reduceCtorEq,Nat.reduceAdd,Nat.reduceLeDiff,Int.reduceLT,Int.reduceLE,↓u_setN]
 have em:IntKind.i64.wrap ((k:Int) - 1)=(k:Int) - 1:=zd (by unfold I64;omega)
 rw [em]
 refine LoopQ.inv (S:=Nat×List Int×Store) (fun q=>[(0,.ptr id 0),(1,.int .u64 n),(6,.int .i64 ((q.1:Int) - 1))]) (fun q=>q.2.2) (fun q=>q.1≤k∧q.2.1.length+q.1≤10000008∧q.2.1++beN q.1 n=L++beN k n∧WI τ id q.2.1 q.2.2) (fun q=>q.1) (k,L,s) rfl (Store.sub_refl _) ⟨Nat.le_refl _,by simp only;omega,rfl,h⟩ ?_
 rintro ⟨j,M,s⟩ ⟨hj,hM,hE,hW⟩
 simp only at hj hM hE hW
 obtain ⟨h1,h2,v,h3,h4⟩:=hW
 simp only [↓vcPre,↓z8,↓reduceIte,vcPost,vcStd,Nat.reduceEqDiff,reduceCtorEq,Nat.reduceAdd,Nat.reduceLeDiff,Int.reduceLT,Int.reduceLE,↓u_setN]
 refine ⟨fun c1 => ?_,fun c1 => ?_⟩
 ·obtain ⟨m,rfl⟩:∃ m,j=m+1:=⟨j - 1,by omega⟩
  have e1:((m+1:Nat):Int) - 1=m:=by omega
  have e2:IntKind.i64.wrap ((m:Int) - 1)=(m:Int) - 1:=zd (by unfold I64;omega)
  have e3:IntKind.i64.wrap (8*(m:Int))=8*(m:Int):=zd (by unfold I64;omega)
  rw [e1,e3]
  simp only [h3,↓vcPre,↓z8,↓reduceIte,vcPost,vcStd,Nat.reduceEqDiff,reduceCtorEq,Nat.reduceAdd,Nat.reduceLeDiff,Int.reduceLT,Int.reduceLE,↓u_setN]
  refine ⟨by omega,AllocQ.i0 fun b hb => ?_⟩
  simp only [↓vcPre,↓z8,↓reduceIte,vcPost,vcStd,Nat.reduceEqDiff,reduceCtorEq,Nat.reduceAdd,Nat.reduceLeDiff,Int.reduceLT,Int.reduceLE,↓u_setN]
  refine WI.app1 h1 h2 h3 h4 (by omega) hb fun v' s' g1 g2 g3 => ?_
  have hv:=g2.cell
  simp only [g1,hv.1,hv.2,↓vcPre,↓z8,↓reduceIte,vcPost,vcStd,Nat.reduceEqDiff,reduceCtorEq,Nat.reduceAdd,Nat.reduceLeDiff,Int.reduceLT,Int.reduceLE,↓u_setN]
  refine NextQ.to (m,M++[IntKind.u8.wrap (shrInt .u64 n (8*(m:Int)))],s'.set id (.box [v'])) (by rw [e2]) (Store.sub_refl _) (by simp only;omega) ⟨by simp only;omega,by simp;omega,?_,h1,zb g3 h1,v',Store.set_same _ _ _,g2.setId g1 (fun M h=>by cases h)⟩
  simp only [beN] at hE
  simp only [List.append_assoc,List.cons_append,List.nil_append]
  exact hE
 ·have hj0:j=0:=by omega
  subst hj0
  simp only [beN,List.append_nil] at hE
  exact EndQ.to _ _ rfl (Store.sub_refl _) ⟨rfl,by rw [←hE];exact ⟨h1,h2,v,h3,h4⟩⟩
theorem z9q {τ s:Store} {id:Nat} {L:List Int} (h:WI τ id L s) (hL:L.length≤10000000) (n:Int):ACalls Tryz.prog 107 [.ptr id 0,.int .i64 n] s (fun r s'=>r = .tup []∧WI τ id (L++beN 1 (IntKind.u64.wrap n)) s'):=by
 refine ze Tst.F107 (by simp [Tst.F107,Fn.mkX]) ?_
 simp only [Tst.F107,Fn.mkX,Tst.b107]
 simp only [↓vcPre,↓z8,↓reduceIte,vcPost,vcStd,Nat.reduceEqDiff,reduceCtorEq,Nat.reduceAdd,Nat.reduceLeDiff,Int.reduceLT,Int.reduceLE,↓u_setN]
 refine (z9s h hL _ 1 (by omega)).Q ?_
 rintro r s' ⟨rfl,h'⟩
 simp only [↓vcPre,↓z8,↓reduceIte,vcPost,vcStd,Nat.reduceEqDiff,reduceCtorEq,Nat.reduceAdd,Nat.reduceLeDiff,Int.reduceLT,Int.reduceLE,↓u_setN]
 exact EndQ.to _ _ rfl (Store.sub_refl _) ⟨rfl,h'⟩
theorem z9r {τ s:Store} {id:Nat} {L:List Int} (h:WI τ id L s) (hL:L.length≤10000000) (n:Int):ACalls Tryz.prog 108 [.ptr id 0,.int .i64 n] s (fun r s'=>r = .tup []∧WI τ id (L++beN 2 (IntKind.u64.wrap n)) s'):=by
 refine ze Tst.F108 (by simp [Tst.F108,Fn.mkX]) ?_
 simp only [Tst.F108,Fn.mkX,Tst.b108]
 simp only [↓vcPre,↓z8,↓reduceIte,vcPost,vcStd,Nat.reduceEqDiff,reduceCtorEq,Nat.reduceAdd,Nat.reduceLeDiff,Int.reduceLT,Int.reduceLE,↓u_setN]
 refine (z9s h hL _ 2 (by omega)).Q ?_
 rintro r s' ⟨rfl,h'⟩
 simp only [↓vcPre,↓z8,↓reduceIte,vcPost,vcStd,Nat.reduceEqDiff,reduceCtorEq,Nat.reduceAdd,Nat.reduceLeDiff,Int.reduceLT,Int.reduceLE,↓u_setN]
 exact EndQ.to _ _ rfl (Store.sub_refl _) ⟨rfl,h'⟩
theorem zie {τ s:Store} {id:Nat} {L:List Int} (h:WI τ id L s) (hL:L.length≤10000000) (n:Int):ACalls Tryz.prog 109 [.ptr id 0,.int .u32 n] s (fun r s'=>r = .tup []∧WI τ id (L++beN 4 (IntKind.u64.wrap n)) s'):=by
 refine ze Tst.F109 (by simp [Tst.F109,Fn.mkX]) ?_
 simp only [Tst.F109,Fn.mkX,Tst.b109]
 simp only [↓vcPre,↓z8,↓reduceIte,vcPost,vcStd,Nat.reduceEqDiff,reduceCtorEq,Nat.reduceAdd,Nat.reduceLeDiff,Int.reduceLT,Int.reduceLE,↓u_setN]
 refine (z9s h hL _ 4 (by omega)).Q ?_
 rintro r s' ⟨rfl,h'⟩
 simp only [↓vcPre,↓z8,↓reduceIte,vcPost,vcStd,Nat.reduceEqDiff,reduceCtorEq,Nat.reduceAdd,Nat.reduceLeDiff,Int.reduceLT,Int.reduceLE,↓u_setN]
 exact EndQ.to _ _ rfl (Store.sub_refl _) ⟨rfl,h'⟩
theorem u8w (n:Int):IntKind.u8.wrap n=n % 256:=by simp [IntKind.wrap,IntKind.bits,IntKind.signed]
theorem z28 (n:Int):IntKind.u64.wrap n=n % 18446744073709551616:=by simp [IntKind.wrap,IntKind.bits,IntKind.signed]
theorem za1 (n:Int):IntKind.u32.wrap n=n % 4294967296:=by simp [IntKind.wrap,IntKind.bits,IntKind.signed]
theorem be1 (n:Int):beN 1 (IntKind.u64.wrap n)=[n % 256]:=by
 simp [beN,u8w,z28,shrInt,IntKind.bits]
theorem be2 (n:Int):beN 2 (IntKind.u64.wrap n)=[n / 256 % 256,n % 256]:=by
 have e1:∀ x:Int,x.fdiv 256=x / 256:=fun x=>Int.fdiv_eq_ediv_of_nonneg _ (by omega)
 simp [beN,u8w,z28,shrInt,IntKind.bits,e1];omega
theorem be4 (n:Int):beN 4 (IntKind.u64.wrap n)=b4 n:=by
 have e1:∀ x:Int,x.fdiv 256=x / 256:=fun x=>Int.fdiv_eq_ediv_of_nonneg _ (by omega)
 have e2:∀ x:Int,x.fdiv 65536=x / 65536:=fun x=>Int.fdiv_eq_ediv_of_nonneg _ (by omega)
 have e3:∀ x:Int,x.fdiv 16777216=x / 16777216:=fun x=>Int.fdiv_eq_ediv_of_nonneg _ (by omega)
 simp [beN,u8w,z28,shrInt,IntKind.bits,b4,e1,e2,e3];omega
def Rd (esz:Nat) (τ:Store) (L:List (List AV)) (v:AV):Prop:=(∀ t,Store.sub τ t→slc t esz v=some L)∧pv .len [v]=some (.int .i64 L.length)
theorem Rd.mono {esz:Nat} {τ τ':Store} {L:List (List AV)} {v:AV} (h:Rd esz τ L v) (hs:Store.sub τ τ'):Rd esz τ' L v:=⟨fun t ht=>h.1 t (Store.sub_trans hs ht),h.2⟩
theorem Rd.sl {esz:Nat} {τ:Store} {L:List (List AV)}:Rd esz τ L (.sl esz L):=⟨fun _ _=>us,by simp [pv,pLen]⟩
theorem Rd.nils {esz:Nat} {τ:Store}:Rd esz τ [] .nils:=⟨fun _ _=>rfl,rfl⟩
theorem Rd.os {esz g:Nat} {τ:Store} {L:List (List AV)} (h:τ g=some (.arr esz L)):Rd esz τ L (.os g esz 0 L.length):=⟨fun t ht=>zq (ht _ _ h) rfl,by simp [pv,pLen]⟩
theorem Rd.own {esz:Nat} {τ s:Store} {L:List (List AV)} {v:AV} (h:Own esz τ L v s):Rd esz s L v:=by
 rcases h with ⟨rfl,rfl⟩ | ⟨g,rfl,_,h⟩
 ·exact Rd.nils
 ·exact Rd.os h
theorem Own.appM {esz bytes:Nat} {τ s:Store} {L ys:List (List AV)} {v wv:AV} {K:AV→Store→Prop} (hsub:Store.sub τ s) (ho:Own esz τ L v s) (hw:slc s esz wv=some ys) (hsz:(L.length+ys.length)*bytes≤140737488355328)
 (h:∀ v' s',Store.sub τ s'→Own esz τ (L++ys) v' s'→K v' s'):appwp esz bytes v wv s K:=by
 rcases ho with ⟨rfl,rfl⟩ | ⟨g,rfl,hg,hs⟩
 ·refine z1t hw (by simpa using hsz) (fun h0 => ?_) (fun _ j hj => ?_)
  ·exact h _ _ hsub (.inl ⟨by simpa using h0,rfl⟩)
  ·exact h _ _ (zb hsub (zo hsub hj)) (.inr ⟨j,rfl,zo hsub hj,Store.set_same _ _ _⟩)
 ·refine xd (zq hs rfl) hw hsz fun j hj => ?_
  have hτ:τ j=none:=zo hsub hj
  refine h _ _ (fun x q hx => ?_) (.inr ⟨j,by simp,hτ,by rw [Store.set_same]⟩)
  have hxj:x≠j:=fun e=>by subst e;rw [hτ] at hx;cases hx
  have hxg:x≠g:=fun e=>by subst e;rw [hg] at hx;cases hx
  rw [Store.set_ne _ _ hxj,Store.del_ne _ hxg];exact hsub x q hx
theorem WI.appM {τ s:Store} {id:Nat} {L:List Int} {ys:List (List AV)} {v wv:AV} {K:AV→Store→Prop} (h1:τ id=none) (h2:Store.sub τ s) (h3:s id=some (.box [v])) (h4:Own 1 τ (L.map cB) v s) (hw:slc s 1 wv=some ys) (hsz:L.length+ys.length≤100000000)
 (h:∀ v' s',s' id=some (.box [v])→Own 1 τ (L.map cB++ys) v' s'→Store.sub τ s'→K v' s'):appwp 1 1 v wv s K:=by
 obtain ⟨τ0,q1,q2,q3,q4⟩:∃ τ0,Store.sub τ τ0∧Store.sub τ0 s∧τ0 id=some (.box [v])∧Own 1 τ0 (L.map cB) v s:=by
  rcases h4 with ⟨hk,hv⟩ | ⟨g,hv,hg,hs⟩
  ·exact ⟨s,h2,Store.sub_refl _,h3,.inl ⟨hk,hv⟩⟩
  ·have hgi:¬ id=g:=fun e=>by subst e;rw [hs] at h3;cases h3
   exact ⟨s.del g,sub_del h2 hg,zz _ _,by rw [Store.del_ne _ hgi];exact h3,.inr ⟨g,hv,by simp,hs⟩⟩
 refine Own.appM (τ:=τ0) q2 q4 hw (by simp;omega) fun v' s' hs' ho' => ?_
 exact h v' s' (hs' _ _ q3) (ho'.weak q1) (Store.sub_trans q1 hs')
theorem zdp {τ s:Store} {id:Nat} {L M:List Int} {wv:AV} (h:WI τ id L s) (hw:Rd 1 τ (M.map cB) wv) (hL:L.length≤10000000) (hM:M.length≤10000000):ACalls Tryz.prog 164 [.ptr id 0,wv] s (fun r s'=>r = .tup []∧WI τ id (L++M) s'):=by
 refine ze Tst.F164 (by simp [Tst.F164,Fn.mkX]) ?_
 simp only [Tst.F164,Fn.mkX,Tst.b164]
 obtain ⟨h1,h2,v,h3,h4⟩:=h
 simp only [h3,↓vcPre,↓z8,↓reduceIte,vcPost,vcStd,Nat.reduceEqDiff,reduceCtorEq,Nat.reduceAdd,Nat.reduceLeDiff,Int.reduceLT,Int.reduceLE,↓u_setN]
 refine WI.appM h1 h2 h3 h4 (hw.1 _ h2) (by simp;omega) fun v' s' g1 g2 g3 => ?_
 have hv:=g2.cell
 simp only [g1,hv.1,hv.2,↓vcPre,↓z8,↓reduceIte,vcPost,vcStd,Nat.reduceEqDiff,reduceCtorEq,Nat.reduceAdd,Nat.reduceLeDiff,Int.reduceLT,Int.reduceLE,↓u_setN]
 refine EndQ.to _ _ rfl (Store.sub_refl _) ⟨rfl,h1,zb g3 h1,v',Store.set_same _ _ _,?_⟩
 rw [List.map_append]
 exact g2.setId g1 (fun M h=>by cases h)
theorem Rd.cases {esz:Nat} {σ:Store} {L:List (List AV)} {v:AV} (h:Rd esz σ L v):(v = .nils∧L=[])∨v = .sl esz L∨∃ g o n,v = .os g esz o n:=by
 have h1:=h.1 σ (Store.sub_refl _)
 unfold slc at h1
 split at h1
 ·exact .inl ⟨rfl,by cases h1;rfl⟩
 ·split at h1
  ·rename_i e;subst e;cases h1;exact .inr (.inl rfl)
  ·cases h1
 ·split at h1
  ·split at h1
   ·rename_i e;obtain ⟨rfl,_,_⟩:=e;exact .inr (.inr ⟨_,_,_,rfl⟩)
   ·cases h1
  ·cases h1
 ·cases h1
theorem Rd.at {esz:Nat} {τ:Store} {L:List (List AV)} {v:AV} (h:Rd esz τ L v) {k:Nat} (hk:k<L.length):∃ p,pv (.idx esz) [v,.int .i64 (k:Int)]=some p∧∀ t,Store.sub τ t→∀ n,rd t n p=takeN 0 n L[k]:=by
 rcases h.cases with ⟨rfl,h0⟩ | rfl | ⟨g,o,n,rfl⟩
 ·subst h0;simp at hk
 ·refine ⟨.ep L[k],by simp [pv,pIdx,hk],fun t _ n=>rfl⟩
 ·have hl:=h.2
  simp only [pv,pLen,Option.some.injEq,AV.int.injEq,true_and] at hl
  refine ⟨.aptr g esz (o+k) 0,by simp [pv,pIdx];omega,fun t ht m => ?_⟩
  have h1:=h.1 t ht
  unfold slc at h1
  simp only at h1
  split at h1
  ·rename_i e2 es hg
   split at h1
   ·rename_i e;obtain ⟨_,rfl,hle⟩:=e
    have h2:=Option.some.inj h1
    have h3:es[o+k]? = some L[k]:=by
     have h4:((es.drop o).take n)[k]? = some L[k]:=by rw [h2];exact List.getElem?_eq_getElem hk
     rw [List.getElem?_take_of_lt (by omega),List.getElem?_drop] at h4
     exact h4
    simp only [rd,hg,if_true,h3,Option.bind_some]
   ·cases h1
  ·cases h1
theorem z21 {σ:Store} {M:List Int} {v:AV} (hr:Rd 1 σ (M.map cB) v) (hM:M.length≤1000000000):ACalls Tryz.prog 101 [v] σ (fun r s=>s=σ∧r = .sl 1 (M.map cB)):=by
 refine ze Tst.F101 (by simp [Tst.F101,Fn.mkX]) ?_
 simp only [Tst.F101,Fn.mkX,Tst.b101]
 have hcp:∀ i,σ i=none→slc (σ.set i (.arr 1 [])) 1 v=some (M.map cB):=fun i hi=>hr.1 _ (Store.sub_set _ _ _ hi)
 rcases hr.cases with ⟨rfl,h0⟩ | rfl | ⟨g,o,n,rfl⟩
 ·simp only [↓vcPre,↓z8,↓reduceIte,vcPost,vcStd,Nat.reduceEqDiff,reduceCtorEq,Nat.reduceAdd,Nat.reduceLeDiff,Int.reduceLT,Int.reduceLE,↓u_setN]
  exact EndQ.nil1 1 σ rfl (Store.sub_refl _) ⟨rfl,by rw [h0]⟩
 ·simp only [↓vcPre,↓z8,↓reduceIte,vcPost,vcStd,Nat.reduceEqDiff,reduceCtorEq,Nat.reduceAdd,Nat.reduceLeDiff,Int.reduceLT,Int.reduceLE,↓u_setN]
  show nilqwp false (.sl 1 (M.map cB)) _
  refine z8g fun b hb => ?_
  cases b with
  | true =>
    have hl:M=[]:=by
     cases M with
     | nil=>rfl
     | cons x r=>have:=hb (by simp);cases this
    subst hl
    simp only [↓vcPre,↓z8,↓reduceIte,vcPost,vcStd,Nat.reduceEqDiff,reduceCtorEq,Nat.reduceAdd,Nat.reduceLeDiff,Int.reduceLT,Int.reduceLE,↓u_setN]
    exact EndQ.nil1 1 σ rfl (Store.sub_refl _) ⟨rfl,rfl⟩
  | false =>
    simp only [↓vcPre,↓z8,↓reduceIte,vcPost,vcStd,Nat.reduceEqDiff,reduceCtorEq,Nat.reduceAdd,Nat.reduceLeDiff,Int.reduceLT,Int.reduceLE,↓u_setN]
    refine AllocQ.i0 fun i hi => ?_
    simp only [↓vcPre,↓z8,↓reduceIte,vcPost,vcStd,Nat.reduceEqDiff,reduceCtorEq,Nat.reduceAdd,Nat.reduceLeDiff,Int.reduceLT,Int.reduceLE,↓u_setN]
    refine xd (zq (Store.set_same _ _ _) rfl) (hcp i hi) (by simp;omega) fun j hj => ?_
    simp only [List.nil_append,List.length_nil,Nat.zero_add]
    refine EndQ.frz j 1 0 _ (M.map cB) σ rfl (Store.set_same _ _ _) (by simp) (um hi hj) ⟨rfl,?_⟩
    rw [List.drop_zero,List.take_of_length_le (by simp)]
 ·simp only [↓vcPre,↓z8,↓reduceIte,vcPost,vcStd,Nat.reduceEqDiff,reduceCtorEq,Nat.reduceAdd,Nat.reduceLeDiff,Int.reduceLT,Int.reduceLE,↓u_setN]
  refine AllocQ.i0 fun i hi => ?_
  simp only [↓vcPre,↓z8,↓reduceIte,vcPost,vcStd,Nat.reduceEqDiff,reduceCtorEq,Nat.reduceAdd,Nat.reduceLeDiff,Int.reduceLT,Int.reduceLE,↓u_setN]
  refine xd (zq (Store.set_same _ _ _) rfl) (hcp i hi) (by simp;omega) fun j hj => ?_
  simp only [List.nil_append,List.length_nil,Nat.zero_add]
  refine EndQ.frz j 1 0 _ (M.map cB) σ rfl (Store.set_same _ _ _) (by simp) (um hi hj) ⟨rfl,?_⟩
  rw [List.drop_zero,List.take_of_length_le (by simp)]
theorem zdo {τ s:Store} {id:Nat} {L:List Int} (h:WI τ id L s) (hL:L.length≤100000000):ACalls Tryz.prog 110 [.ptr id 0] s (fun r s'=>s'=s∧r = .sl 1 (L.map cB)):=by
 refine ze Tst.F110 (by simp [Tst.F110,Fn.mkX]) ?_
 simp only [Tst.F110,Fn.mkX,Tst.b110]
 obtain ⟨h1,h2,v,h3,h4⟩:=h
 simp only [h3,↓vcPre,↓z8,↓reduceIte,vcPost,vcStd,Nat.reduceEqDiff,reduceCtorEq,Nat.reduceAdd,Nat.reduceLeDiff,Int.reduceLT,Int.reduceLE,↓u_setN]
 refine (z21 (Rd.own h4) (by omega)).Q ?_
 rintro r s' ⟨rfl,rfl⟩
 simp only [↓vcPre,↓z8,↓reduceIte,vcPost,vcStd,Nat.reduceEqDiff,reduceCtorEq,Nat.reduceAdd,Nat.reduceLeDiff,Int.reduceLT,Int.reduceLE,↓u_setN]
 exact EndQ.to _ _ rfl (Store.sub_refl _) ⟨rfl,rfl⟩
end Go.Am
namespace Go.Am
open Go.Proofs Go.Sort
def ofSz (k:Int):Int:=if k=1 then 1 else if k=2 then -1 else if k=3∨k=4∨k=5 then 4 else if k=8 then -4 else 0
def ofOk (k:Int):Bool:=decide (wantOf k≠0)
theorem zd6 (k:Int):Pur Tryz.prog 181 [.int .i64 k] (.tup [.int .i64 (wantOf k),.int .i64 (ofSz k),.bool (ofOk k)]):=by
 refine zw Tst.F181 (by simp [Tst.F181,Fn.mkX]) fun σ => ?_
 simp only [Tst.F181,Fn.mkX,Tst.b181]
 simp only [↓vcPre,↓z8,↓reduceIte,vcPost,vcStd,Nat.reduceEqDiff,reduceCtorEq,Nat.reduceAdd,Nat.reduceLeDiff,Int.reduceLT,Int.reduceLE,↓u_setN]
 refine ⟨fun h => ?_,fun h1=>⟨fun h => ?_,fun h2=>⟨fun h => ?_,fun h3=>⟨fun h => ?_,fun h4=>⟨fun h => ?_,fun h5=>⟨fun h => ?_,fun h6=>⟨fun h => ?_,fun h8 => ?_⟩⟩⟩⟩⟩⟩⟩
 all_goals first
  | (subst h;rfl)
  | (simp [ofSz,ofOk,wantOf,h1,h2,h3,h4,h5,h6,h8])
theorem z2g (l:List Int) (k:Nat) (h:k<l.length):encW (l.take (k+1))=encW (l.take k)++b4 l[k]:=by
 unfold encW
 rw [List.take_add_one,List.getElem?_eq_getElem h,List.flatMap_append]
 simp only [Option.toList_some,List.flatMap_cons,List.flatMap_nil,List.append_nil]
end Go.Am
namespace Go.Am
open Go.Proofs Go.Sort
theorem inc_pt {l:List Int}:Inc l↔∀ i,∀ h:i+1<l.length,l[i]<l[i+1]:=by
 unfold Inc
 rw [List.pairwise_iff_getElem]
 constructor
 ·intro h i hi;exact h i (i+1) (by omega) hi (by omega)
 ·intro h i j hi hj hij
  induction j with
  | zero=>omega
  | succ j ih =>
    have h1:=h j hj
    by_cases e:i=j
    ·subst e;exact h1
    ·have:=ih (by omega) (by omega);omega
instance (l:List Int):Decidable (Inc l):=inferInstanceAs (Decidable (l.Pairwise (· < ·)))
instance (a:At):Decidable (atRight a):=inferInstanceAs (Decidable (_∧_∧_∧_∧_∧_∧_))
theorem zj5 (s:Seg):Pur Tryz.prog 170 [.agg s.c] (.bool (decide (segRight s))):=by
 refine zw Tst.F170 (by simp [Tst.F170,Fn.mkX]) fun σ => ?_
 simp only [Tst.F170,Fn.mkX,Tst.b170]
 simp only [Seg.c,↓vcPre,↓z8,↓reduceIte,vcPost,vcStd,Nat.reduceEqDiff,reduceCtorEq,Nat.reduceAdd,Nat.reduceLeDiff,Int.reduceLT,Int.reduceLE,↓u_setN]
 refine AllocQ.i0 fun i hi => ?_
 simp only [Seg.c,↓vcPre,↓z8,↓reduceIte,vcPost,vcStd,Nat.reduceEqDiff,reduceCtorEq,Nat.reduceAdd,Nat.reduceLeDiff,Int.reduceLT,Int.reduceLE,↓u_setN]
 have hsb:=Store.sub_set σ i (.box [.int .i64 s.kind,.sl 1 (s.ls.map cU)]) hi
 (repeat' first
   | (refine ⟨fun _ => ?_,fun _ => ?_⟩)
   | (refine ⟨?_,hsb⟩)
   | (refine decide_eq_decide.2 ?_;unfold segRight;omega)
   | (symm;rw [decide_eq_false_iff_not];unfold segRight;omega)
   | (symm;rw [decide_eq_true_iff];unfold segRight;omega))
theorem z3h (x:Int):x.fdiv 16777216=x / 16777216:=Int.fdiv_eq_ediv_of_nonneg _ (by omega)
theorem zhn (n:Int):Pur Tryz.prog 124 [.int .u32 n] (.bool (decide (goodN n))):=by
 refine zw Tst.F124 (by simp [Tst.F124,Fn.mkX]) fun σ => ?_
 simp only [Tst.F124,Fn.mkX,Tst.b124]
 have e:shrInt .u32 n 24=n / 16777216:=by
  simp [shrInt,IntKind.bits,z3h]
 simp only [e,↓vcPre,↓z8,↓reduceIte,vcPost,vcStd,Nat.reduceEqDiff,reduceCtorEq,Nat.reduceAdd,Nat.reduceLeDiff,Int.reduceLT,Int.reduceLE,↓u_setN]
 have hsb:=Store.sub_refl σ
 (repeat' first
   | (refine ⟨fun _ => ?_,fun _ => ?_⟩)
   | (refine ⟨?_,hsb⟩)
   | (refine decide_eq_decide.2 ?_;unfold goodN;omega)
   | (symm;rw [decide_eq_false_iff_not];unfold goodN;omega)
   | (symm;rw [decide_eq_true_iff];unfold goodN;omega))
end Go.Am
namespace Go.Am
open Go.Proofs Go.Sort
def byL (L:List Int):List UInt8:=L.map fun n=>UInt8.ofNat n.toNat
theorem z2x:∀ (L:List Int) (acc:List UInt8),toBytes (L.map cB) acc=some (acc.reverse++byL L)
 | [],acc=>by simp [toBytes,byL]
 | x::L,acc=>by
   show toBytes ([.int .u8 x]::L.map cB) acc=_
   simp only [toBytes]
   rw [z2x L];simp [byL]
theorem z76 {τ:Store} {L:List Int} {v:AV} (h:Rd 1 τ (L.map cB) v) {t:Store} (ht:Store.sub τ t):ldv .str [v] t=some (.str ⟨(byL L).toArray⟩):=by
 simp only [ldv,h.1 t ht,Option.bind_some,z2x,List.reverse_nil,List.nil_append,Option.map_some]
theorem zgm {a b:List UInt8}:pv (.eqs false) [.str ⟨a.toArray⟩,.str ⟨b.toArray⟩]=some (.bool (a ==b)):=by
 simp [pv,pEqs]
end Go.Am
namespace Go.Am
open Go.Proofs Go.Sort
def ones16:List Int:=List.replicate 16 255
theorem c98:Pur Tryz.prog 98 [] (.sl 1 (ones16.map cB)):=by
 intro σ
 refine ze Tst.F98 (by simp [Tst.F98,Fn.mkX]) ?_
 simp only [Tst.F98,Fn.mkX,Tst.b98]
 simp only [↓vcPre,↓z8,↓reduceIte,vcPost,vcStd,Nat.reduceEqDiff,reduceCtorEq,Nat.reduceAdd,Nat.reduceLeDiff,Int.reduceLT,Int.reduceLE,↓u_setN]
 refine AllocQ.i0 fun h hh => ?_
 simp only [↓vcPre,↓z8,↓reduceIte,vcPost,vcStd,Nat.reduceEqDiff,reduceCtorEq,Nat.reduceAdd,Nat.reduceLeDiff,Int.reduceLT,Int.reduceLE,↓u_setN]
 refine (z7i (Q:=fun r s=>∃ id,(σ.set h (.arr 1 [[.int .u8 255]])) id=none∧r = .os id 1 0 16∧s=(σ.set h (.arr 1 [[.int .u8 255]])).set id (.arr 1 (List.replicate 16 [.int .u8 255]))) (Store.set_same _ _ _) (fun id hid=>⟨id,hid,rfl,rfl⟩)).Q ?_
 rintro r s ⟨id,hid,rfl,rfl⟩
 simp only [↓vcPre,↓z8,↓reduceIte,vcPost,vcStd,Nat.reduceEqDiff,reduceCtorEq,Nat.reduceAdd,Nat.reduceLeDiff,Int.reduceLT,Int.reduceLE,↓u_setN]
 refine EndQ.frz id 1 0 16 (List.replicate 16 [.int .u8 255]) σ rfl (Store.set_same _ _ _) (by simp) ?_ ⟨rfl,rfl⟩
 intro i o hi
 have h1:¬ i=h:=fun e=>by subst e;rw [hh] at hi;cases hi
 have h2:¬ i=id:=fun e=>by subst e;rw [Store.set_ne _ _ h1,hi] at hid;cases hid
 rw [Store.del_ne _ h2,Store.set_ne _ _ h2,Store.set_ne _ _ h1]
 exact hi
def joinF (k:Int) (b:List Int):List Int×Int :=
 if k<1∨4<k then ([],23) else if 4077<b.length then ([],3) else (ones16++[((b.length+19:Nat):Int) / 256 % 256,((b.length+19:Nat):Int) % 256,k % 256]++b,0)
theorem zif {σ:Store} {B:List Int} {v:AV} (hr:Rd 1 σ (B.map cB) v) (hB:B.length≤1000000) (k:Int):ACalls Tryz.prog 111 [.int .i64 k,v] σ (fun r s=>s=σ∧r = .tup [.sl 1 ((joinF k B).1.map cB),.int .i64 (joinF k B).2]):=by
 refine ze Tst.F111 (by simp [Tst.F111,Fn.mkX]) ?_
 simp only [Tst.F111,Fn.mkX,Tst.b111]
 have lv:pv .len [v]=some (.int .i64 (B.length:Int)):=by rw [hr.2];simp
 simp only [lv,↓vcPre,↓z8,↓reduceIte,vcPost,vcStd,Nat.reduceEqDiff,reduceCtorEq,Nat.reduceAdd,Nat.reduceLeDiff,Int.reduceLT,Int.reduceLE,↓u_setN]
 have bad:(k<1∨4<k) → @EndQ [(4,.nils),(5,.int .i64 23)] σ ⟨Tst.F111.slots,fun r s=>s=σ∧r = .tup [.sl 1 ((joinF k B).1.map cB),.int .i64 (joinF k B).2]⟩:=fun h=>by
  refine EndQ.twoNil _ 1 σ rfl (Store.sub_refl _) ⟨rfl,?_⟩
  unfold joinF;rw [if_pos h];rfl
 have good:¬ (k<1∨4<k)→¬ 4077<B.length→joinF k B=(ones16++[((B.length+19:Nat):Int) / 256 % 256,((B.length+19:Nat):Int) % 256,k % 256]++B,0):=fun h h2=>by
  unfold joinF;rw [if_neg h,if_neg h2]
 refine ⟨fun c1=>⟨fun c2=>bad (.inr c2),fun c2=>⟨fun c3 => ?_,fun c3 => ?_⟩⟩,fun c1=>bad (.inl c1)⟩
 ·refine EndQ.twoNil _ 1 σ rfl (Store.sub_refl _) ⟨rfl,?_⟩
  unfold joinF;rw [if_neg (by omega),if_pos (by omega)];rfl
 ·have w1:IntKind.i64.wrap (19+(B.length:Int))=((B.length+19:Nat):Int):=by rw [zd (by unfold I64;omega)];omega
  refine (zdn σ).Q ?_
  rintro r s0 ⟨id,rfl,h0⟩
  simp only [↓vcPre,↓z8,↓reduceIte,vcPost,vcStd,Nat.reduceEqDiff,reduceCtorEq,Nat.reduceAdd,Nat.reduceLeDiff,Int.reduceLT,Int.reduceLE,↓u_setN]
  refine (c98).Q ?_
  simp only [↓vcPre,↓z8,↓reduceIte,vcPost,vcStd,Nat.reduceEqDiff,reduceCtorEq,Nat.reduceAdd,Nat.reduceLeDiff,Int.reduceLT,Int.reduceLE,↓u_setN]
  refine (zdp h0 Rd.sl (by simp) (by decide)).Q ?_
  rintro r s1 ⟨rfl,h1⟩
  simp only [lv,w1,↓vcPre,↓z8,↓reduceIte,vcPost,vcStd,Nat.reduceEqDiff,reduceCtorEq,Nat.reduceAdd,Nat.reduceLeDiff,Int.reduceLT,Int.reduceLE,↓u_setN]
  refine (z9r h1 (by decide) _).Q ?_
  rintro r s2 ⟨rfl,h2⟩
  simp only [↓vcPre,↓z8,↓reduceIte,vcPost,vcStd,Nat.reduceEqDiff,reduceCtorEq,Nat.reduceAdd,Nat.reduceLeDiff,Int.reduceLT,Int.reduceLE,↓u_setN]
  refine (z9q h2 (by simp [be2,ones16]) _).Q ?_
  rintro r s3 ⟨rfl,h3⟩
  simp only [↓vcPre,↓z8,↓reduceIte,vcPost,vcStd,Nat.reduceEqDiff,reduceCtorEq,Nat.reduceAdd,Nat.reduceLeDiff,Int.reduceLT,Int.reduceLE,↓u_setN]
  refine (zdp h3 hr (by simp [be2,be1,ones16]) (by omega)).Q ?_
  rintro r s4 ⟨rfl,h4⟩
  have ej:[]++ones16++beN 2 (IntKind.u64.wrap ((B.length+19:Nat):Int))++beN 1 (IntKind.u64.wrap k)++B=(joinF k B).1:=by
   rw [good (by omega) (by omega),be2,be1];simp
  rw [ej] at h4
  simp only [↓vcPre,↓z8,↓reduceIte,vcPost,vcStd,Nat.reduceEqDiff,reduceCtorEq,Nat.reduceAdd,Nat.reduceLeDiff,Int.reduceLT,Int.reduceLE,↓u_setN]
  refine (zdo h4 (by rw [good (by omega) (by omega)];simp [ones16];omega)).Q ?_
  rintro r s5 ⟨rfl,rfl⟩
  simp only [↓vcPre,↓z8,↓reduceIte,vcPost,vcStd,Nat.reduceEqDiff,reduceCtorEq,Nat.reduceAdd,Nat.reduceLeDiff,Int.reduceLT,Int.reduceLE,↓u_setN]
  refine EndQ.to σ _ rfl h4.2.1 ⟨rfl,by rw [good (by omega) (by omega)]⟩
def fitsF (k n:Int):Bool:=if k=1 then decide (29≤n) else if k=2 then decide (23≤n) else if k=3 then decide (21≤n) else decide (n=19)
theorem zd4 (k n:Int):Pur Tryz.prog 100 [.int .i64 k,.int .i64 n] (.bool (fitsF k n)):=by
 refine zw Tst.F100 (by simp [Tst.F100,Fn.mkX]) fun σ => ?_
 simp only [Tst.F100,Fn.mkX,Tst.b100]
 unfold fitsF
 simp only [↓vcPre,↓z8,↓reduceIte,vcPost,vcStd,Nat.reduceEqDiff,reduceCtorEq,Nat.reduceAdd,Nat.reduceLeDiff,Int.reduceLT,Int.reduceLE,↓u_setN]
 refine ⟨fun c1 => ?_,fun c1=>⟨fun c2 => ?_,fun c2=>⟨fun c3 => ?_,fun c3 => ?_⟩⟩⟩
 ·rw [if_pos c1]
 ·rw [if_neg c1,if_pos c2]
 ·rw [if_neg c1,if_neg c2,if_pos c3]
 ·rw [if_neg c1,if_neg c2,if_neg c3]
theorem s99 {σ:Store} {B:List Int} {v:AV} (hr:Rd 1 σ (B.map cB) v) (hB:B.length≤1000000) (n:Int):ACalls Tryz.prog 99 [.int .i64 n,v] σ (fun r s=>s=σ∧r = .agg [.int .i64 1,.int .i64 n,.sl 1 (B.map cB)]):=by
 refine ze Tst.F99 (by simp [Tst.F99,Fn.mkX]) ?_
 simp only [Tst.F99,Fn.mkX,Tst.b99]
 simp only [↓vcPre,↓z8,↓reduceIte,vcPost,vcStd,Nat.reduceEqDiff,reduceCtorEq,Nat.reduceAdd,Nat.reduceLeDiff,Int.reduceLT,Int.reduceLE,↓u_setN]
 refine AllocQ.i0 fun p hp => ?_
 have sT:=Store.sub_set σ p (.box [AV.int .i64 0,.int .i64 0,.nils]) hp
 have T4:=Store.set_same σ p (.box [AV.int .i64 0,.int .i64 0,.nils])
 generalize σ.set p (.box [AV.int .i64 0,.int .i64 0,.nils])=T at sT T4 ⊢
 simp only [↓vcPre,↓z8,↓reduceIte,vcPost,vcStd,Nat.reduceEqDiff,reduceCtorEq,Nat.reduceAdd,Nat.reduceLeDiff,Int.reduceLT,Int.reduceLE,↓u_setN]
 refine (z21 (hr.mono sT) (by omega)).Q ?_
 rintro r T ⟨rfl,rfl⟩
 simp only [T4,↓vcPre,↓z8,↓reduceIte,vcPost,vcStd,Nat.reduceEqDiff,reduceCtorEq,Nat.reduceAdd,Nat.reduceLeDiff,Int.reduceLT,Int.reduceLE,↓u_setN]
 refine EndQ.to σ (.agg [.int .i64 1,.int .i64 n,.sl 1 (B.map cB)]) ?_ (zb sT hp) ⟨rfl,rfl⟩
 show Env.res [(4,AV.ptr p 0)] _ [RS.c 4 3 true]=_
 simp only [Store.set_same,↓vcPre,↓z8,↓reduceIte,vcPost,vcStd,Nat.reduceEqDiff,reduceCtorEq,Nat.reduceAdd,Nat.reduceLeDiff,Int.reduceLT,Int.reduceLE,↓u_setN]
end Go.Am
namespace Go.Am
theorem z9n (fl k:Int) (v:List Int):(oneA fl k v).length=(if 255<v.length then 4 else 3)+v.length:=by unfold oneA;split <;> simp <;> omega
structure It where
 k:Int
 v:List Int
def It.enc (i:It):List Int:=oneA (wantOf i.k) i.k i.v
end Go.Am
namespace Go.Am
open Go.Proofs Go.Sort
theorem z3f (l:List Seg) (k:Nat) (h:k<l.length):encPath (l.take (k+1))=encPath (l.take k)++encSeg l[k]:=by
 unfold encPath
 rw [List.take_add_one,List.getElem?_eq_getElem h,List.flatMap_append]
 simp only [Option.toList_some,List.flatMap_cons,List.flatMap_nil,List.append_nil]
def boxC (a:At):Obj := .box [.int .i64 a.org,.sl 2 (a.path.map Seg.c),.int .u32 a.nxt,.bool a.hm,.int .u32 a.med,.bool a.hp,.int .u32 a.prf,.bool a.atm,.sl 1 (a.cms.map cU)]
theorem xi (fl k:Int) (v:List Int):(oneA fl k v).length≤4+v.length:=by rw [z9n];split <;> omega
theorem vq (n:Int):(b4 n).length=4:=rfl
end Go.Am
namespace Go.Am.Tsj
open Go.Proofs Go.Am.B
def t87_39:BC := .seq (z [f 39 8 1,l 40 1 39,u 41 .len 40,c 42 .gtr 41 0] [1,3,42] (.cond (.t 42) (z [k 4 .nils] [1,3,4] (.seq (z [j 5 0] [1,3,4,5] (.block 0 (.loop [1,3,4,5] (.seq (z [m 43 5,f 44 8 1,l 45 1 44,u 46 .len 45,b 47 .lss 43 46] [1,3,4,5,47] (.cond (.t 47) .skip (.exit 0))) (.seq (.block 1 (.ops [m 50 4,f 51 8 1,l 52 1 51,m 53 5,x 54 1 52 53,l 55 1 54,g 56 94 [.t 50,.t 55],m 4 56] [1,3,4,5])) (.ops [m 48 5,c 49 .add 48 1,m 5 49] [1,3,4,5])))))) (.ops [m 57 3,m 58 4,g 59 148 [.t 57,.c (.int .i64 192),.c (.int .i64 8),.t 58],m 3 59] [3]))) .skip)) (z [m 60 3,m 2 60] [2] .ret)
def t87_35:BC := .seq (z [f 35 7 1,l 36 1 35] [1,3,36] (.cond (.t 36) (.ops [m 37 3,g 38 148 [.t 37,.c (.int .i64 64),.c (.int .i64 6),.c .nils],m 3 38] [1,3]) .skip)) t87_39
def t87_28:BC := .seq (z [f 28 5 1,l 29 1 28] [1,3,29] (.cond (.t 29) (.ops [m 30 3,f 31 6 1,l 32 1 31,g 33 94 [.c .nils,.t 32],g 34 148 [.t 30,.c (.int .i64 64),.c (.int .i64 5),.t 33],m 3 34] [1,3]) .skip)) t87_35
def t87_21:BC := .seq (z [f 21 3 1,l 22 1 21] [1,3,22] (.cond (.t 22) (.ops [m 23 3,f 24 4 1,l 25 1 24,g 26 94 [.c .nils,.t 25],g 27 148 [.t 23,.c (.int .i64 128),.c (.int .i64 4),.t 26],m 3 27] [1,3]) .skip)) t87_28
def b87:BC:=z [⟨some 1,none,.alloc (.box),[.t 0]⟩,k 2 .nils] [1] (z [f 6 0 1,l 7 1 6,u 8 (.conv .u8) 7,⟨some 9,none,.alloc (.mksl 1 1),[.t 8]⟩,g 10 148 [.c .nils,.c (.int .i64 64),.c (.int .i64 1),.t 9],m 3 10] [1,3] (z [m 11 3,f 12 1 1,l 13 1 12,g 14 149 [.t 13],g 15 148 [.t 11,.c (.int .i64 64),.c (.int .i64 2),.t 14],m 3 15] [1,3] (z [m 16 3,f 17 2 1,l 18 1 17,g 19 94 [.c .nils,.t 18],g 20 148 [.t 16,.c (.int .i64 64),.c (.int .i64 3),.t 19],m 3 20] [1,3] t87_21)))
def F87:Fn Tryz.prog 87:=Fn.mkX false b87 [.t 2] 61 Tryz.f87 _ Tryz.func87 (by decide) rfl Tryz.ntmps87 (by kernel_rfl) (by kernel_rfl)
end Go.Am.Tsj
namespace Go.Am
open Go.Proofs Go.Sort
theorem zef {k:IntKind} {a b c d:Int}:alv (.mksl 1 4) [.int k a,.int k b,.int k c,.int k d]=some (.arr 1 [[.int k a],[.int k b],[.int k c],[.int k d]],fun id => .os id 1 0 4):=by rfl
theorem z5f {k:IntKind} {a b c:Int}:alv (.mksl 1 3) [.int k a,.int k b,.int k c]=some (.arr 1 [[.int k a],[.int k b],[.int k c]],fun id => .os id 1 0 3):=by rfl
theorem zdd (x:Int):x.fdiv 65536=x / 65536:=Int.fdiv_eq_ediv_of_nonneg _ (by omega)
theorem zai (x:Int):x.fdiv 256=x / 256:=Int.fdiv_eq_ediv_of_nonneg _ (by omega)
theorem Own.new {esz i:Nat} {s:Store} {L:List (List AV)} (hi:s i=none):Own esz s L (.os i esz 0 L.length) (s.set i (.arr esz L)) := .inr ⟨i,rfl,hi,Store.set_same _ _ _⟩
theorem s94 {s:Store} {L:List Int} {v:AV} (hr:Rd 1 s (L.map cB) v) (hL:L.length≤100000000) (n:Int):ACalls Tryz.prog 94 [v,.int .u32 n] s (fun r s'=>Store.sub s s'∧Own 1 s ((L++b4 n).map cB) r s'):=by
 refine ze Tst.F94 (by simp [Tst.F94,Fn.mkX]) ?_
 simp only [Tst.F94,Fn.mkX,Tst.b94]
 simp only [↓vcPre,↓z8,↓reduceIte,vcPost,vcStd,Nat.reduceEqDiff,reduceCtorEq,Nat.reduceAdd,Nat.reduceLeDiff,Int.reduceLT,Int.reduceLE,↓u_setN]
 refine AllocQ.i0 fun i hi => ?_
 simp only [↓vcPre,↓z8,↓reduceIte,vcPost,vcStd,Nat.reduceEqDiff,reduceCtorEq,Nat.reduceAdd,Nat.reduceLeDiff,Int.reduceLT,Int.reduceLE,↓u_setN]
 have hsi:=Store.sub_set s i (.arr 1 []) hi
 refine Own.appM (τ:=s) hsi (Own.new (L:=[]) hi) (hr.1 _ hsi) (by simp;omega) fun v1 s1 hs1 ho1 => ?_
 simp only [zef,↓vcPre,↓z8,↓reduceIte,vcPost,vcStd,Nat.reduceEqDiff,reduceCtorEq,Nat.reduceAdd,Nat.reduceLeDiff,Int.reduceLT,Int.reduceLE,↓u_setN]
 refine AllocQ.i0 fun b hb => ?_
 simp only [↓vcPre,↓z8,↓reduceIte,vcPost,vcStd,Nat.reduceEqDiff,reduceCtorEq,Nat.reduceAdd,Nat.reduceLeDiff,Int.reduceLT,Int.reduceLE,↓u_setN]
 have hsb:=Store.sub_set s1 b (.arr 1 [[.int .u8 (IntKind.u8.wrap (shrInt .u32 n 24))],[.int .u8 (IntKind.u8.wrap (shrInt .u32 n 16))],[.int .u8 (IntKind.u8.wrap (shrInt .u32 n 8))],[.int .u8 (IntKind.u8.wrap n)]]) hb
 refine Own.appM (τ:=s) (Store.sub_trans hs1 hsb) (ho1.mono hsb) (zq (Store.set_same _ _ _) rfl) (by simp;omega) fun v2 s2 hs2 ho2 => ?_
 refine EndQ.to _ _ rfl (Store.sub_refl _) ⟨hs2,?_⟩
 simpa [b4,cB,u8w,shrInt,IntKind.bits,z3h,zdd,zai] using ho2
theorem s93 {s:Store} {L:List Int} {v:AV} (hr:Rd 1 s (L.map cB) v) (hL:L.length≤100000000) (n:Int):ACalls Tryz.prog 93 [v,.int .i64 n] s (fun r s'=>Store.sub s s'∧Own 1 s ((L++[n / 256 % 256,n % 256]).map cB) r s'):=by
 refine ze Tst.F93 (by simp [Tst.F93,Fn.mkX]) ?_
 simp only [Tst.F93,Fn.mkX,Tst.b93]
 simp only [↓vcPre,↓z8,↓reduceIte,vcPost,vcStd,Nat.reduceEqDiff,reduceCtorEq,Nat.reduceAdd,Nat.reduceLeDiff,Int.reduceLT,Int.reduceLE,↓u_setN]
 refine AllocQ.i0 fun i hi => ?_
 simp only [↓vcPre,↓z8,↓reduceIte,vcPost,vcStd,Nat.reduceEqDiff,reduceCtorEq,Nat.reduceAdd,Nat.reduceLeDiff,Int.reduceLT,Int.reduceLE,↓u_setN]
 have hsi:=Store.sub_set s i (.arr 1 []) hi
 refine Own.appM (τ:=s) hsi (Own.new (L:=[]) hi) (hr.1 _ hsi) (by simp;omega) fun v1 s1 hs1 ho1 => ?_
 refine AllocQ.i0 fun b hb => ?_
 simp only [↓vcPre,↓z8,↓reduceIte,vcPost,vcStd,Nat.reduceEqDiff,reduceCtorEq,Nat.reduceAdd,Nat.reduceLeDiff,Int.reduceLT,Int.reduceLE,↓u_setN]
 have hsb:=Store.sub_set s1 b (.arr 1 [[.int .u8 (IntKind.u8.wrap (shrInt .i64 n 8))],[.int .u8 (IntKind.u8.wrap n)]]) hb
 refine Own.appM (τ:=s) (Store.sub_trans hs1 hsb) (ho1.mono hsb) (zq (Store.set_same _ _ _) rfl) (by simp;omega) fun v2 s2 hs2 ho2 => ?_
 refine EndQ.to _ _ rfl (Store.sub_refl _) ⟨hs2,?_⟩
 simpa [cB,u8w,shrInt,IntKind.bits,zai] using ho2
theorem zhs (l:List Seg) (hl:l.length≤10000) (ho:∀ s ∈ l,s.ls.length≤1000):Pur Tryz.prog 149 [.sl 2 (l.map Seg.c)] (.sl 1 ((encPath l).map cB)):=by
 intro σ
 refine ze Tst.F149 (by simp [Tst.F149,Fn.mkX]) ?_
 simp only [Tst.F149,Fn.mkX,Tst.b149]
 have hsz:∀ m:List Seg,(∀ s ∈ m,s.ls.length≤1000)→(encPath m).length≤4002*m.length:=by
  intro m
  induction m with
  | nil=>intro _;simp [encPath]
  | cons s r ih =>
    intro h
    have h1:=ih fun x hx=>h x (by simp [hx])
    have h2:=h s (by simp)
    have h3:=xr s.ls
    simp only [encPath,List.flatMap_cons,List.length_append,encSeg,List.length_cons,List.length_nil] at *
    omega
 simp only [↓vcPre,↓z8,↓reduceIte,vcPost,vcStd,Nat.reduceEqDiff,reduceCtorEq,Nat.reduceAdd,Nat.reduceLeDiff,Int.reduceLT,Int.reduceLE,↓u_setN]
 refine LoopQ.inv (S:=Nat×AV×Store) (fun q=>[(0,.sl 2 (l.map Seg.c)),(3,q.2.1),(4,.int .i64 (q.1:Int))]) (fun q=>q.2.2) (fun q=>q.1≤l.length∧Store.sub σ q.2.2∧Own 1 σ ((encPath (l.take q.1)).map cB) q.2.1 q.2.2) (fun q=>l.length+1 - q.1) (0,.nils,σ) rfl (Store.sub_refl _) ⟨by simp only;omega,Store.sub_refl _,by simpa [encPath] using Own.nil⟩ ?_
 rintro ⟨k,v,s⟩ ⟨hk,hs,hO⟩
 simp only at hk hs hO
 have hlk:=hsz (l.take k) fun s h=>ho s (List.mem_of_mem_take h)
 rw [List.length_take] at hlk
 simp only [↓vcPre,↓z8,↓reduceIte,vcPost,vcStd,Nat.reduceEqDiff,reduceCtorEq,Nat.reduceAdd,Nat.reduceLeDiff,Int.reduceLT,Int.reduceLE,↓u_setN]
 refine ⟨fun c1 => ?_,fun c1 => ?_⟩
 ·have ek:IntKind.i64.wrap ((k:Int)+1)=((k+1:Nat):Int):=by rw [zd (by unfold I64;omega)];omega
  have hls:=ho _ (List.getElem_mem c1)
  refine ⟨c1,c1,by simp [Seg.c],?_⟩
  simp only [Seg.c,↓vcPre,↓z8,↓reduceIte,vcPost,vcStd,Nat.reduceEqDiff,reduceCtorEq,Nat.reduceAdd,Nat.reduceLeDiff,Int.reduceLT,Int.reduceLE,↓u_setN]
  refine AllocQ.i0 fun b hb => ?_
  simp only [↓vcPre,↓z8,↓reduceIte,vcPost,vcStd,Nat.reduceEqDiff,reduceCtorEq,Nat.reduceAdd,Nat.reduceLeDiff,Int.reduceLT,Int.reduceLE,↓u_setN]
  have hsb:=Store.sub_set s b (.arr 1 [[.int .u8 (IntKind.u8.wrap l[k].kind)],[.int .u8 (IntKind.u8.wrap (l[k].ls.length:Int))]]) hb
  refine Own.appM (τ:=σ) (Store.sub_trans hs hsb) (hO.mono hsb) (zq (Store.set_same _ _ _) rfl) (by simp;omega) fun v1 s1 hs1 ho1 => ?_
  refine LoopQ.inv (S:=Nat×AV×Store) (fun q=>[(0,.sl 2 (l.map Seg.c)),(3,q.2.1),(4,.int .i64 (k:Int)),(5,.int .i64 (q.1:Int))]) (fun q=>q.2.2) (fun q=>q.1≤l[k].ls.length∧Store.sub σ q.2.2∧Own 1 σ ((encPath (l.take k)++([l[k].kind % 256,(l[k].ls.length:Int) % 256]++encW (l[k].ls.take q.1))).map cB) q.2.1 q.2.2) (fun q=>l[k].ls.length+1 - q.1) (0,v1,s1) rfl (Store.sub_refl _) ⟨by simp only;omega,hs1,by simpa [encW,cB,u8w] using ho1⟩ ?_
  rintro ⟨j,v2,s2⟩ ⟨hj,hs2,ho2⟩
  simp only at hj hs2 ho2
  have hle:=xr (l[k].ls.take j)
  rw [List.length_take] at hle
  simp only [Seg.c,↓vcPre,↓z8,↓reduceIte,vcPost,vcStd,Nat.reduceEqDiff,reduceCtorEq,Nat.reduceAdd,Nat.reduceLeDiff,Int.reduceLT,Int.reduceLE,↓u_setN]
  refine ⟨c1,fun d1 => ?_,fun d1 => ?_⟩
  ·have ej:IntKind.i64.wrap ((j:Int)+1)=((j+1:Nat):Int):=by rw [zd (by unfold I64;omega)];omega
   refine ⟨c1,d1,by simp [cU],?_⟩
   simp only [cU,↓vcPre,↓z8,↓reduceIte,vcPost,vcStd,Nat.reduceEqDiff,reduceCtorEq,Nat.reduceAdd,Nat.reduceLeDiff,Int.reduceLT,Int.reduceLE,↓u_setN]
   refine (s94 (Rd.own ho2) (by simp only [List.length_append,List.length_cons,List.length_nil];omega) _).Q ?_
   rintro r s3 ⟨hs3,ho3⟩
   simp only [↓vcPre,↓z8,↓reduceIte,vcPost,vcStd,Nat.reduceEqDiff,reduceCtorEq,Nat.reduceAdd,Nat.reduceLeDiff,Int.reduceLT,Int.reduceLE,↓u_setN]
   rw [ej]
   refine NextQ.to (j+1,r,s3) rfl (Store.sub_refl _) (by simp only;omega) ⟨by simp only;omega,Store.sub_trans hs2 hs3,?_⟩
   simp only
   rw [z2g _ _ d1,←List.append_assoc,←List.append_assoc,List.append_assoc (encPath _)]
   exact ho3.weak hs2
  ·have e:l[k].ls.take j=l[k].ls:=List.take_of_length_le (by omega)
   rw [e] at ho2
   rw [ek]
   refine NextQ.to (k+1,v2,s2) rfl (Store.sub_refl _) (by simp only;omega) ⟨by simp only;omega,hs2,?_⟩
   simp only
   rw [z3f _ _ c1]
   exact ho2
 ·have e:l.take k=l:=List.take_of_length_le (by omega)
  rw [e] at hO
  exact EndQ.own rfl hO hs ⟨rfl,rfl⟩
theorem u0 (fl kind:Int) (M:List Int) (L:List Int):(L++oneA fl kind M).length≤L.length+4+M.length:=by
 rw [List.length_append];have:=xi fl kind M;omega
theorem z11 {τ s:Store} (hτ:Store.sub τ s) {L M:List Int} {v wv:AV} (ho:Own 1 τ (L.map cB) v s) (hw:Rd 1 τ (M.map cB) wv) (hL:L.length≤20000000) (hM:M.length≤20000000) (fl k:Int) (hfl:fl=64∨fl=128∨fl=192) (hk:0≤k∧k≤8) :
 ACalls Tryz.prog 148 [v,.int .i64 fl,.int .i64 k,wv] s (fun r s'=>Store.sub τ s'∧Own 1 τ ((L++oneA fl k M).map cB) r s'):=by
 refine ze Tst.F148 (by simp [Tst.F148,Fn.mkX]) ?_
 simp only [Tst.F148,Fn.mkX,Tst.b148]
 have hlen:pv .len [wv]=some (.int .i64 (M.length:Int)):=by rw [hw.2];simp
 have hor:bitInt .or .i64 fl 16=fl+16∧fl % 256=fl∧(fl+16) % 256=fl+16:=by
  rcases hfl with h | h | h <;> rw [h] <;> decide
 have hk8:k % 256=k:=by omega
 simp only [hlen,z5f,↓vcPre,↓z8,↓reduceIte,vcPost,vcStd,Nat.reduceEqDiff,reduceCtorEq,Nat.reduceAdd,Nat.reduceLeDiff,Int.reduceLT,Int.reduceLE,↓u_setN]
 refine ⟨fun c1 => ?_,fun c1 => ?_⟩
 ·refine AllocQ.i0 fun b hb => ?_
  rw [hor.1]
  simp only [↓vcPre,↓z8,↓reduceIte,vcPost,vcStd,Nat.reduceEqDiff,reduceCtorEq,Nat.reduceAdd,Nat.reduceLeDiff,Int.reduceLT,Int.reduceLE,↓u_setN]
  have hsb:=Store.sub_set s b (.arr 1 [[.int .u8 (IntKind.u8.wrap (fl+16))],[.int .u8 (IntKind.u8.wrap k)]]) hb
  refine Own.appM (τ:=τ) (Store.sub_trans hτ hsb) (ho.mono hsb) (zq (Store.set_same _ _ _) rfl) (by simp;omega) fun v1 s1 hs1 ho1 => ?_
  simp only [hlen,↓vcPre,↓z8,↓reduceIte,vcPost,vcStd,Nat.reduceEqDiff,reduceCtorEq,Nat.reduceAdd,Nat.reduceLeDiff,Int.reduceLT,Int.reduceLE,↓u_setN]
  have ho1':Own 1 τ ((L++[fl+16,k]).map cB) v1 s1:=by simpa [cB,u8w,hor.2.2,hk8] using ho1
  refine (s93 (Rd.own ho1') (by simp;omega) _).Q ?_
  rintro r s2 ⟨hs2,ho2⟩
  simp only [↓vcPre,↓z8,↓reduceIte,vcPost,vcStd,Nat.reduceEqDiff,reduceCtorEq,Nat.reduceAdd,Nat.reduceLeDiff,Int.reduceLT,Int.reduceLE,↓u_setN]
  have hs2':=Store.sub_trans hs1 hs2
  refine Own.appM (τ:=τ) hs2' (ho2.weak hs1) (hw.1 _ hs2') (by simp;omega) fun v3 s3 hs3 ho3 => ?_
  refine EndQ.to _ _ rfl (Store.sub_refl _) ⟨hs3,?_⟩
  unfold oneA
  rw [if_pos (by omega)]
  rw [←List.map_append] at ho3
  simpa using ho3
 ·refine AllocQ.i0 fun b hb => ?_
  simp only [↓vcPre,↓z8,↓reduceIte,vcPost,vcStd,Nat.reduceEqDiff,reduceCtorEq,Nat.reduceAdd,Nat.reduceLeDiff,Int.reduceLT,Int.reduceLE,↓u_setN]
  have hsb:=Store.sub_set s b (.arr 1 [[.int .u8 (IntKind.u8.wrap fl)],[.int .u8 (IntKind.u8.wrap k)],[.int .u8 (IntKind.u8.wrap (M.length:Int))]]) hb
  refine Own.appM (τ:=τ) (Store.sub_trans hτ hsb) (ho.mono hsb) (zq (Store.set_same _ _ _) rfl) (by simp;omega) fun v1 s1 hs1 ho1 => ?_
  refine Own.appM (τ:=τ) hs1 ho1 (hw.1 _ hs1) (by simp;omega) fun v3 s3 hs3 ho3 => ?_
  refine EndQ.to _ _ rfl (Store.sub_refl _) ⟨hs3,?_⟩
  have e:(M.length:Int) % 256=(M.length:Int):=by omega
  unfold oneA
  rw [if_neg (by omega)]
  simpa [cB,u8w,hor.2.1,hk8,e] using ho3
end Go.Am
namespace Go.Am
open Go.Proofs Go.Sort
def num (l:List Int):Int:=l.foldl (fun a b=>a*256+b) 0
theorem z9m (l:List Int) (x:Int):num (l++[x])=num l*256+x:=by simp [num]
theorem z58:∀ (l:List Int) (a:Int) (m:Nat),U8s l→0≤a→a<256 ^ m→0≤l.foldl (fun a b=>a*256+b) a∧l.foldl (fun a b=>a*256+b) a<256 ^ (m+l.length)
 | [],a,m,_,h1,h2=>⟨h1,h2⟩
 | x::l,a,m,h,h1,h2=>by
   have hx:=h x (by simp)
   have:=z58 l (a*256+x) (m+1) (fun y hy=>h y (by simp [hy])) (by omega) (by rw [Int.pow_succ];omega)
   simp only [List.foldl_cons,List.length_cons]
   rw [show m+(l.length+1)=m+1+l.length by omega]
   exact this
theorem z2l (l:List Int) (h:U8s l):0≤num l∧num l<256 ^ l.length:=by
 have:=z58 l 0 0 h (by omega) (by decide)
 rwa [Nat.zero_add] at this
theorem z7f {n k:Nat} (h:n≤k) (hk:k≤4):(256:Int) ^ n≤256 ^ k:=by
 have h1:n=0∨n=1∨n=2∨n=3∨n=4:=by omega
 have h2:k=0∨k=1∨k=2∨k=3∨k=4:=by omega
 rcases h1 with rfl | rfl | rfl | rfl | rfl <;> rcases h2 with rfl | rfl | rfl | rfl | rfl <;> first | decide | omega
theorem z7c {m d:Nat} (h:d<256):(m*256) ||| d=m*256+d:=by
 have:=Nat.shiftLeft_add_eq_or_of_lt (b:=d) (i:=8) (by omega) m
 rw [Nat.shiftLeft_eq] at this
 exact this.symm
theorem zib {n c:Int} (h0:0≤n) (h1:n<72057594037927936) (h2:0≤c) (h3:c<256):bitInt .or .u64 (shlInt .u64 n 8) c=n*256+c:=by
 obtain ⟨m,rfl⟩:=Int.eq_ofNat_of_zero_le h0
 obtain ⟨d,rfl⟩:=Int.eq_ofNat_of_zero_le h2
 have e:shlInt .u64 (m:Int) 8=((m*256:Nat):Int):=by
  simp [shlInt,z28,IntKind.bits];omega
 rw [e]
 show IntKind.u64.wrap (((BitVec.ofInt 64 ((m*256:Nat):Int)) ||| (BitVec.ofInt 64 (d:Int))).toNat:Int)=_
 have e1:(((m*256:Nat):Int) % ((2 ^ 64:Nat):Int)).toNat=m*256:=by omega
 have e2:((d:Int) % ((2 ^ 64:Nat):Int)).toNat=d:=by omega
 rw [BitVec.toNat_or,BitVec.toNat_ofInt,BitVec.toNat_ofInt,e1,e2,z7c (by omega),z28];omega
def rawM (n:Int) (R:List Int) (bad:Bool):List Int×List Int×Bool :=
 if bad=true∨(R.length:Int)<n then ([],R,true) else if n<1 then ([],R,false) else (R.take n.toNat,R.drop n.toNat,false)
def numM (k:Nat) (R:List Int) (bad:Bool):Int×List Int×Bool:=(num (rawM k R bad).1,(rawM k R bad).2)
theorem vo {n:Int} {R:List Int} {bad:Bool} (h:U8s R):U8s (rawM n R bad).1∧U8s (rawM n R bad).2.1:=by
 unfold rawM
 split
 ·exact ⟨fun x hx=>by simp at hx,h⟩
 ·split
  ·exact ⟨fun x hx=>by simp at hx,h⟩
  ·exact ⟨h.take _,h.drop _⟩
theorem rawM_len {n:Int} {R:List Int} {bad:Bool}:(rawM n R bad).2.1.length≤R.length∧(rawM n R bad).1.length≤R.length:=by
 unfold rawM
 split
 ·exact ⟨Nat.le_refl _,by simp⟩
 ·split
  ·exact ⟨Nat.le_refl _,by simp⟩
  ·exact ⟨by simp,by simp;omega⟩
theorem z02 {k:Nat} {R:List Int} {bad:Bool}:(rawM k R bad).1.length≤k:=by
 unfold rawM
 split
 ·simp
 ·split
  ·simp
  ·simp;omega
def RP (τ:Store) (id:Nat) (R:List Int) (bad:Bool) (s:Store):Prop:=τ id=none∧Store.sub τ s∧s id=some (.box [.sl 1 (R.map cB),.bool bad])
theorem RP.mono {τ s s':Store} {id:Nat} {R:List Int} {bad:Bool} (h:RP τ id R bad s) (hs:Store.sub s s'):RP τ id R bad s':=⟨h.1,Store.sub_trans h.2.1 hs,hs _ _ h.2.2⟩
theorem RP.set {τ s:Store} {id:Nat} {R R':List Int} {bad bad':Bool} (h:RP τ id R bad s):RP τ id R' bad' (s.set id (.box [.sl 1 (R'.map cB),.bool bad'])):=⟨h.1,zb h.2.1 h.1,Store.set_same _ _ _⟩
theorem z22 {σ:Store} {M:List Int} {v:AV} (hr:Rd 1 σ (M.map cB) v) (hM:M.length≤1000000000):ACalls Tryz.prog 190 [v] σ (fun r s=>∃ id,r = .ptr id 0∧RP σ id M false s):=by
 refine ze Tst.F190 (by simp [Tst.F190,Fn.mkX]) ?_
 simp only [Tst.F190,Fn.mkX,Tst.b190]
 simp only [↓vcPre,↓z8,↓reduceIte,vcPost,vcStd,Nat.reduceEqDiff,reduceCtorEq,Nat.reduceAdd,Nat.reduceLeDiff,Int.reduceLT,Int.reduceLE,↓u_setN]
 refine (z21 hr hM).Q ?_
 rintro r s ⟨rfl,rfl⟩
 simp only [↓vcPre,↓z8,↓reduceIte,vcPost,vcStd,Nat.reduceEqDiff,reduceCtorEq,Nat.reduceAdd,Nat.reduceLeDiff,Int.reduceLT,Int.reduceLE,↓u_setN]
 refine AllocQ.i0 fun id hid => ?_
 simp only [↓vcPre,↓z8,↓reduceIte,vcPost,vcStd,Nat.reduceEqDiff,reduceCtorEq,Nat.reduceAdd,Nat.reduceLeDiff,Int.reduceLT,Int.reduceLE,↓u_setN]
 exact EndQ.to _ _ rfl (Store.sub_refl _) ⟨id,rfl,hid,Store.sub_set _ _ _ hid,Store.set_same _ _ _⟩
theorem z23 {τ s:Store} {id:Nat} {R:List Int} {bad:Bool} (h:RP τ id R bad s) (hR:R.length≤1000000000) (n:Int):ACalls Tryz.prog 196 [.ptr id 0,.int .i64 n] s (fun r s'=>r = .sl 1 ((rawM n R bad).1.map cB)∧RP τ id (rawM n R bad).2.1 (rawM n R bad).2.2 s'):=by
 refine ze Tst.F196 (by simp [Tst.F196,Fn.mkX]) ?_
 simp only [Tst.F196,Fn.mkX,Tst.b196]
 have hs:=h.2.2
 cases bad with
 | true =>
   simp only [hs,↓vcPre,↓z8,↓reduceIte,vcPost,vcStd,Nat.reduceEqDiff,reduceCtorEq,Nat.reduceAdd,Nat.reduceLeDiff,Int.reduceLT,Int.reduceLE,↓u_setN]
   have e:rawM n R true=([],R,true):=by simp [rawM]
   rw [e]
   exact EndQ.nil1 1 _ rfl (Store.sub_refl _) ⟨rfl,h.set⟩
 | false =>
   by_cases g1:(R.length:Int)<n
   ·simp only [hs,g1,↓vcPre,↓z8,↓reduceIte,vcPost,vcStd,Nat.reduceEqDiff,reduceCtorEq,Nat.reduceAdd,Nat.reduceLeDiff,Int.reduceLT,Int.reduceLE,↓u_setN]
    have e:rawM n R false=([],R,true):=by simp [rawM,g1]
    rw [e]
    exact EndQ.nil1 1 _ rfl (Store.sub_refl _) ⟨rfl,h.set⟩
   ·simp only [hs,g1,↓vcPre,↓z8,↓reduceIte,vcPost,vcStd,Nat.reduceEqDiff,reduceCtorEq,Nat.reduceAdd,Nat.reduceLeDiff,Int.reduceLT,Int.reduceLE,↓u_setN]
    refine ⟨fun g2 => ?_,fun g2 => ?_⟩
    ·have e:rawM n R false=([],R,false):=by simp [rawM,g1,g2]
     rw [e]
     exact EndQ.nil1 1 _ rfl (Store.sub_refl _) ⟨rfl,h.set⟩
    ·have e:rawM n R false=(R.take n.toNat,R.drop n.toNat,false):=by simp [rawM,g1,g2]
     rw [e]
     simp only [Option.getD_some,↓vcPre,↓z8,↓reduceIte,vcPost,vcStd,Nat.reduceEqDiff,reduceCtorEq,Nat.reduceAdd,Nat.reduceLeDiff,Int.reduceLT,Int.reduceLE,↓u_setN]
     refine ⟨by omega,?_⟩
     have ht:List.drop (Int.toNat 0) (List.take n.toNat (R.map cB))=(R.take n.toNat).map cB:=by rw [List.map_take];rfl
     rw [ht]
     refine (z21 Rd.sl (by rw [List.length_take];omega)).Q ?_
     rintro r s' ⟨rfl,rfl⟩
     simp only [Option.getD_none,↓vcPre,↓z8,↓reduceIte,vcPost,vcStd,Nat.reduceEqDiff,reduceCtorEq,Nat.reduceAdd,Nat.reduceLeDiff,Int.reduceLT,Int.reduceLE,↓u_setN]
     refine ⟨by omega,?_⟩
     have hd:List.drop n.toNat (List.take R.length (R.map cB))=(R.drop n.toNat).map cB:=by
      rw [List.take_of_length_le (by simp),List.map_drop]
     rw [hd,Store.set_set]
     exact EndQ.to _ _ rfl (Store.sub_refl _) ⟨rfl,h.set⟩
theorem z12 {τ s:Store} {id:Nat} {R:List Int} {bad:Bool} (h:RP τ id R bad s):ACalls Tryz.prog 195 [.ptr id 0] s (fun r s'=>s'=s∧r = .int .i64 (if bad then 0 else (R.length:Int))):=by
 refine ze Tst.F195 (by simp [Tst.F195,Fn.mkX]) ?_
 simp only [Tst.F195,Fn.mkX,Tst.b195]
 have hs:=h.2.2
 cases bad <;> simp only [hs,↓vcPre,↓z8,↓reduceIte,vcPost,vcStd,Nat.reduceEqDiff,reduceCtorEq,Nat.reduceAdd,Nat.reduceLeDiff,Int.reduceLT,Int.reduceLE,↓u_setN] <;> exact EndQ.to _ _ rfl (Store.sub_refl _) ⟨rfl,rfl⟩
theorem z69 {τ s:Store} {id:Nat} {R:List Int} {bad:Bool} (h:RP τ id R bad s):ACalls Tryz.prog 197 [.ptr id 0] s (fun r s'=>s'=s∧r = .bool (!bad)):=by
 refine ze Tst.F197 (by simp [Tst.F197,Fn.mkX]) ?_
 simp only [Tst.F197,Fn.mkX,Tst.b197]
 have hs:=h.2.2
 simp only [hs,↓vcPre,↓z8,↓reduceIte,vcPost,vcStd,Nat.reduceEqDiff,reduceCtorEq,Nat.reduceAdd,Nat.reduceLeDiff,Int.reduceLT,Int.reduceLE,↓u_setN]
 exact EndQ.to _ _ rfl (Store.sub_refl _) ⟨rfl,rfl⟩
theorem z9t {τ s:Store} {id:Nat} {R:List Int} {bad:Bool} (h:RP τ id R bad s) (hR:R.length≤1000000000) (hu:U8s R) (k:Nat) (hk:k≤4):ACalls Tryz.prog 215 [.ptr id 0,.int .i64 (k:Int)] s (fun r s'=>r = .int .u64 (numM k R bad).1∧RP τ id (numM k R bad).2.1 (numM k R bad).2.2 s'):=by
 refine ze Tst.F215 (by simp [Tst.F215,Fn.mkX]) ?_
 simp only [Tst.F215,Fn.mkX,Tst.b215]
 simp only [↓vcPre,↓z8,↓reduceIte,vcPost,vcStd,Nat.reduceEqDiff,reduceCtorEq,Nat.reduceAdd,Nat.reduceLeDiff,Int.reduceLT,Int.reduceLE,↓u_setN]
 refine (z23 h hR _).Q ?_
 rintro r s' ⟨rfl,h'⟩
 have hx:=(vo (n:=(k:Int)) (bad:=bad) hu).1
 have hl:=z02 (k:=k) (R:=R) (bad:=bad)
 unfold numM
 generalize rawM (k:Int) R bad=q at h' hx hl ⊢
 simp only [↓vcPre,↓z8,↓reduceIte,vcPost,vcStd,Nat.reduceEqDiff,reduceCtorEq,Nat.reduceAdd,Nat.reduceLeDiff,Int.reduceLT,Int.reduceLE,↓u_setN]
 refine LoopQ.inv (S:=Nat) (fun j=>[(5,.int .u64 (num (q.1.take j))),(10,.sl 1 (q.1.map cB)),(11,.int .i64 (q.1.length:Int)),(12,.int .i64 (j:Int))]) (fun _=>s') (fun j=>j≤q.1.length) (fun j=>q.1.length+1 - j) 0 rfl (Store.sub_refl _) (by omega) ?_
 intro j hj
 simp only [↓vcPre,↓z8,↓reduceIte,vcPost,vcStd,Nat.reduceEqDiff,reduceCtorEq,Nat.reduceAdd,Nat.reduceLeDiff,Int.reduceLT,Int.reduceLE,↓u_setN]
 refine ⟨fun c1 => ?_,fun c1 => ?_⟩
 ·have ej:IntKind.i64.wrap ((j:Int)+1)=((j+1:Nat):Int):=by rw [zd (by unfold I64;omega)];omega
  refine ⟨c1,by simp [cB],?_⟩
  simp only [cB,↓vcPre,↓z8,↓reduceIte,vcPost,vcStd,Nat.reduceEqDiff,reduceCtorEq,Nat.reduceAdd,Nat.reduceLeDiff,Int.reduceLT,Int.reduceLE,↓u_setN]
  have hb:=z2l _ (hx.take j)
  have h8:=hx _ (List.getElem_mem c1)
  have hp:(256:Int) ^ (q.1.take j).length≤256 ^ 4:=z7f (by rw [List.length_take];omega) (by omega)
  have hw:IntKind.u64.wrap q.1[j]=q.1[j]:=by rw [z28];omega
  rw [ej,hw,zib hb.1 (by omega) h8.1 h8.2]
  refine NextQ.to (j+1) ?_ (Store.sub_refl _) (by omega) (by omega)
  rw [List.take_add_one,List.getElem?_eq_getElem c1,Option.toList_some,z9m]
 ·have e:q.1.take j=q.1:=List.take_of_length_le (by omega)
  rw [e]
  exact EndQ.to _ _ rfl (Store.sub_refl _) ⟨rfl,h'⟩
theorem ux {k:Nat} (hk:k≤4) {R:List Int} {bad:Bool} (hu:U8s R):0≤(numM k R bad).1∧(numM k R bad).1<4294967296:=by
 have hx:=(vo (n:=(k:Int)) (bad:=bad) hu).1
 have hl:=z02 (k:=k) (R:=R) (bad:=bad)
 have hb:=z2l _ hx
 have hp:(256:Int) ^ (rawM k R bad).1.length≤256 ^ 4:=z7f (by omega) (by omega)
 unfold numM
 simp only
 omega
theorem z05 {τ s:Store} {id:Nat} {R:List Int} {bad:Bool} (h:RP τ id R bad s) (hR:R.length≤1000000000) (hu:U8s R):ACalls Tryz.prog 191 [.ptr id 0] s (fun r s'=>r = .int .i64 (numM 1 R bad).1∧RP τ id (numM 1 R bad).2.1 (numM 1 R bad).2.2 s'):=by
 refine ze Tst.F191 (by simp [Tst.F191,Fn.mkX]) ?_
 simp only [Tst.F191,Fn.mkX,Tst.b191]
 simp only [↓vcPre,↓z8,↓reduceIte,vcPost,vcStd,Nat.reduceEqDiff,reduceCtorEq,Nat.reduceAdd,Nat.reduceLeDiff,Int.reduceLT,Int.reduceLE,↓u_setN]
 refine (z9t h hR hu 1 (by omega)).Q ?_
 rintro r s' ⟨rfl,h'⟩
 have hb:=ux (k:=1) (by omega) (bad:=bad) hu
 simp only [↓vcPre,↓z8,↓reduceIte,vcPost,vcStd,Nat.reduceEqDiff,reduceCtorEq,Nat.reduceAdd,Nat.reduceLeDiff,Int.reduceLT,Int.reduceLE,↓u_setN]
 exact EndQ.to _ _ rfl (Store.sub_refl _) ⟨by rw [zd (by unfold I64;omega)],h'⟩
theorem z40 {τ s:Store} {id:Nat} {R:List Int} {bad:Bool} (h:RP τ id R bad s) (hR:R.length≤1000000000) (hu:U8s R):ACalls Tryz.prog 192 [.ptr id 0] s (fun r s'=>r = .int .i64 (numM 2 R bad).1∧RP τ id (numM 2 R bad).2.1 (numM 2 R bad).2.2 s'):=by
 refine ze Tst.F192 (by simp [Tst.F192,Fn.mkX]) ?_
 simp only [Tst.F192,Fn.mkX,Tst.b192]
 simp only [↓vcPre,↓z8,↓reduceIte,vcPost,vcStd,Nat.reduceEqDiff,reduceCtorEq,Nat.reduceAdd,Nat.reduceLeDiff,Int.reduceLT,Int.reduceLE,↓u_setN]
 refine (z9t h hR hu 2 (by omega)).Q ?_
 rintro r s' ⟨rfl,h'⟩
 have hb:=ux (k:=2) (by omega) (bad:=bad) hu
 simp only [↓vcPre,↓z8,↓reduceIte,vcPost,vcStd,Nat.reduceEqDiff,reduceCtorEq,Nat.reduceAdd,Nat.reduceLeDiff,Int.reduceLT,Int.reduceLE,↓u_setN]
 exact EndQ.to _ _ rfl (Store.sub_refl _) ⟨by rw [zd (by unfold I64;omega)],h'⟩
theorem z68 {τ s:Store} {id:Nat} {R:List Int} {bad:Bool} (h:RP τ id R bad s) (hR:R.length≤1000000000) (hu:U8s R):ACalls Tryz.prog 193 [.ptr id 0] s (fun r s'=>r = .int .u32 (numM 4 R bad).1∧RP τ id (numM 4 R bad).2.1 (numM 4 R bad).2.2 s'):=by
 refine ze Tst.F193 (by simp [Tst.F193,Fn.mkX]) ?_
 simp only [Tst.F193,Fn.mkX,Tst.b193]
 simp only [↓vcPre,↓z8,↓reduceIte,vcPost,vcStd,Nat.reduceEqDiff,reduceCtorEq,Nat.reduceAdd,Nat.reduceLeDiff,Int.reduceLT,Int.reduceLE,↓u_setN]
 refine (z9t h hR hu 4 (by omega)).Q ?_
 rintro r s' ⟨rfl,h'⟩
 have hb:=ux (k:=4) (by omega) (bad:=bad) hu
 simp only [↓vcPre,↓z8,↓reduceIte,vcPost,vcStd,Nat.reduceEqDiff,reduceCtorEq,Nat.reduceAdd,Nat.reduceLeDiff,Int.reduceLT,Int.reduceLE,↓u_setN]
 exact EndQ.to _ _ rfl (Store.sub_refl _) ⟨by rw [za1,Int.emod_eq_of_lt hb.1 hb.2],h'⟩
def RF (τ:Store) (id:Nat) (v:AV) (B:List Int) (at_:Nat) (lack:Bool) (s:Store):Prop:=τ id=none∧Store.sub τ s∧s id=some (.box [v,.int .i64 (at_:Int),.bool lack])∧Rd 1 τ (B.map cB) v∧at_≤B.length
theorem RF.mono {τ s s':Store} {id:Nat} {v:AV} {B:List Int} {at_:Nat} {lack:Bool} (h:RF τ id v B at_ lack s) (hs:Store.sub s s'):RF τ id v B at_ lack s':=⟨h.1,Store.sub_trans h.2.1 hs,hs _ _ h.2.2.1,h.2.2.2⟩
theorem Rd.slice {esz:Nat} {τ:Store} {L:List (List AV)} {v:AV} (h:Rd esz τ L v) {lo hi:Nat} (h1:lo≤hi) (h2:hi≤L.length):∃ v',pSlice esz v (lo:Int) (some (hi:Int))=some v'∧Rd esz τ ((L.take hi).drop lo) v':=by
 rcases h.cases with ⟨rfl,h0⟩ | rfl | ⟨g,o,n,rfl⟩
 ·subst h0
  simp only [List.length_nil] at h2
  refine ⟨.nils,by simp [pSlice];omega,by simpa using Rd.nils⟩
 ·refine ⟨.sl esz ((L.take hi).drop lo),by simp [pSlice];omega,Rd.sl⟩
 ·have hl:=h.2
  simp only [pv,pLen,Option.some.injEq,AV.int.injEq,true_and] at hl
  refine ⟨.os g esz (o+lo) (hi - lo),by simp [pSlice];omega,fun t ht => ?_,by simp [pv,pLen];omega⟩
  have h3:=h.1 t ht
  unfold slc at h3 ⊢
  simp only at h3 ⊢
  split at h3
  ·rename_i e2 es hg
   split at h3
   ·rename_i e;obtain ⟨_,rfl,hle⟩:=e
    have h4:=Option.some.inj h3
    have e3:List.drop lo (List.take n (List.drop o es))=List.take (n - lo) (List.drop (o+lo) es):=by rw [List.drop_take,List.drop_drop]
    rw [if_pos ⟨trivial,rfl,by omega⟩,←h4,List.drop_take,e3,List.take_take,Nat.min_eq_left (by omega)]
   ·cases h3
  ·cases h3
theorem Rd.isTup {esz:Nat} {τ:Store} {L:List (List AV)} {v:AV} (h:Rd esz τ L v):v.isTup=false∧v.cells=[v]:=by
 rcases h.cases with ⟨rfl,_⟩ | rfl | ⟨g,o,n,rfl⟩ <;> exact ⟨rfl,rfl⟩
end Go.Am
namespace Go.Am.Ts34
open Go.Proofs Go.Am.B
def t50_37:BC:=z [m 37 7,c 38 .lss 37 19,m 39 38,⟨some 40,some (39,false),.pure (.mov),[.t 7]⟩,⟨some 41,some (39,false),.pure (.bin .gtr),[.t 40,.c (.int .i64 4096)]⟩,⟨some 42,none,.pick,[.t 39,.c (.bool true),.t 41]⟩,m 36 42] [0,5,6,7,8,36] (.cond (.t 36) (z [m 43 6,g 44 99 [.c (.int .i64 2),.t 43],j 2 0,k 3 .nils,j 4 0,s 3 5 44] [2,3,4,5] .ret) (z [m 46 8,c 47 .lss 46 1,m 48 47,⟨some 49,some (48,false),.pure (.mov),[.t 8]⟩,⟨some 50,some (48,false),.pure (.bin .gtr),[.t 49,.c (.int .i64 4)]⟩,⟨some 51,none,.pick,[.t 48,.c (.bool true),.t 50]⟩,m 45 51] [0,5,6,7,8,45] (.cond (.t 45) (z [m 52 0,p 53 (.slice 1 true true) [.t 52,.c (.int .i64 18),.c (.int .i64 19)],g 54 99 [.c (.int .i64 3),.t 53],j 2 0,k 3 .nils,j 4 0,s 3 5 54] [2,3,4,5] .ret) (z [m 56 8,m 57 7,g 58 100 [.t 56,.t 57],u 59 .not 58,m 55 59] [0,5,6,7,8,55] (.cond (.t 55) (z [m 60 6,g 61 99 [.c (.int .i64 2),.t 60],j 2 0,k 3 .nils,j 4 0,s 3 5 61] [2,3,4,5] .ret) (z [m 63 0,u 64 .len 63,m 65 7,b 66 .lss 64 65,m 62 66] [0,5,7,8,62] (.cond (.t 62) (z [p 67 (.build [(.int .i64 0),(.int .i64 0),.nils] []) [],j 2 0,k 3 .nils,j 4 0,s 3 5 67] [2,3,4,5] .ret) .skip)))))))
def b50:BC:=z [j 2 0,k 3 .nils,j 4 0,⟨some 5,none,.alloc (.alloc [(.int .i64 0),(.int .i64 0),.nils]),[]⟩] [0,5] (.seq (z [m 9 0,u 10 .len 9,c 11 .lss 10 19] [0,5,11] (.cond (.t 11) (z [p 12 (.build [(.int .i64 0),(.int .i64 0),.nils] []) [],j 2 0,k 3 .nils,j 4 0,s 3 5 12] [2,3,4,5] .ret) .skip)) (z [m 13 0,p 14 (.slice 1 true true) [.t 13,.c (.int .i64 16),.c (.int .i64 18)],m 6 14] [0,5,6] (z [m 15 6,p 16 (.idx 1) [.t 15,.c (.int .i64 0)],m 20 6,p 21 (.idx 1) [.t 20,.c (.int .i64 1)],m 25 0,p 26 (.idx 1) [.t 25,.c (.int .i64 18)],l 17 1 16,u 18 (.conv .i64) 17,p 19 (.bin .shl) [.t 18,.c (.int .u64 8)],l 22 1 21,u 23 (.conv .i64) 22,b 24 .or 19 23,m 7 24,l 27 1 26,u 28 (.conv .i64) 27,m 8 28] [0,5,6,7,8] (.seq (.block 0 (z [m 30 0,p 31 (.slice 1 false true) [.t 30,.c (.int .i64 16)],g 32 98 [],g 33 97 [.t 31,.t 32],u 34 .not 33,m 29 34] [0,5,6,7,8,29] (.cond (.t 29) (z [g 35 99 [.c (.int .i64 1),.c .nils],j 2 0,k 3 .nils,j 4 0,s 3 5 35] [2,3,4,5] .ret) t50_37))) (z [m 68 8,m 69 0,m 70 7,p 71 (.slice 1 true true) [.t 69,.c (.int .i64 19),.t 70],g 72 101 [.t 71],m 73 7,p 74 (.build [(.int .i64 0),(.int .i64 0),.nils] []) [],m 2 68,m 3 72,m 4 73,s 3 5 74] [2,3,4,5] .ret)))))
def F50:Fn Tryz.prog 50:=Fn.mkX false b50 [.t 2,.t 3,.t 4,.c 5 3 true] 75 Tryz.f50 _ Tryz.func50 (by decide) rfl Tryz.ntmps50 (by kernel_rfl) (by kernel_rfl)
end Go.Am.Ts34
namespace Go.Am
open Go.Proofs Go.Sort
theorem zia {n c:Int} (h0:0≤n) (h1:n<256) (h2:0≤c) (h3:c<256):bitInt .or .i64 (shlInt .i64 n 8) c=n*256+c:=by
 obtain ⟨m,rfl⟩:=Int.eq_ofNat_of_zero_le h0
 obtain ⟨d,rfl⟩:=Int.eq_ofNat_of_zero_le h2
 have e:shlInt .i64 (m:Int) 8=((m*256:Nat):Int):=by
  simp [shlInt,IntKind.wrap_i64,IntKind.bits];omega
 rw [e]
 show IntKind.i64.wrap (((BitVec.ofInt 64 ((m*256:Nat):Int)) ||| (BitVec.ofInt 64 (d:Int))).toNat:Int)=_
 have e1:(((m*256:Nat):Int) % ((2 ^ 64:Nat):Int)).toNat=m*256:=by omega
 have e2:((d:Int) % ((2 ^ 64:Nat):Int)).toNat=d:=by omega
 rw [BitVec.toNat_or,BitVec.toNat_ofInt,BitVec.toNat_ofInt,e1,e2,z7c (by omega),zd (by unfold I64;omega)];omega
structure Nt3 where
 code:Int
 sub:Int
 data:List Int
def Nt3.c (n:Nt3):List AV:=[.int .i64 n.code,.int .i64 n.sub,.sl 1 (n.data.map cB)]
def nt0:Nt3:=⟨0,0,[]⟩
structure Spl where
 kind:Int
 body:List Int
 n:Int
 note:Nt3
def Spl.v (s:Spl):AV := .tup [.int .i64 s.kind,.sl 1 (s.body.map cB),.int .i64 s.n,.agg s.note.c]
def noneS (n:Nt3):Spl:=⟨0,[],0,n⟩
def sizeF (B:List Int):Int:=B.getD 16 0*256+B.getD 17 0
def splitF (B:List Int):Spl :=
 if B.length<19 then noneS nt0
 else if B.take 16≠ones16 then noneS ⟨1,1,[]⟩
 else if sizeF B<19∨4096<sizeF B then noneS ⟨1,2,[B.getD 16 0,B.getD 17 0]⟩
 else if B.getD 18 0<1∨4<B.getD 18 0 then noneS ⟨1,3,[B.getD 18 0]⟩
 else if fitsF (B.getD 18 0) (sizeF B)=false then noneS ⟨1,2,[B.getD 16 0,B.getD 17 0]⟩
 else if (B.length:Int)<sizeF B then noneS nt0
 else ⟨B.getD 18 0,(B.take (sizeF B).toNat).drop 19,sizeF B,nt0⟩
theorem z4q:∀ {L M:List Int},U8s L→U8s M→byL L=byL M→L=M
 | [],[],_,_,_=>rfl
 | [],_::_,_,_,h=>by simp [byL] at h
 | _::_,[],_,_,h=>by simp [byL] at h
 | x::L,y::M,hl,hm,h=>by
   simp only [byL,List.map_cons,List.cons.injEq] at h
   have hx:=hl x (by simp)
   have hy:=hm y (by simp)
   have e:=congrArg UInt8.toNat h.1
   rw [UInt8.toNat_ofNat',UInt8.toNat_ofNat',Nat.mod_eq_of_lt (by omega),Nat.mod_eq_of_lt (by omega)] at e
   rw [show x=y by omega,z4q (fun z hz=>hl z (by simp [hz])) (fun z hz=>hm z (by simp [hz])) h.2]
theorem s97 {σ:Store} {L M:List Int} {v w:AV} (h1:Rd 1 σ (L.map cB) v) (h2:Rd 1 σ (M.map cB) w) (u1:U8s L) (u2:U8s M):ACalls Tryz.prog 97 [v,w] σ (fun r s=>s=σ∧r = .bool (decide (L=M))):=by
 refine ze Tst.F97 (by simp [Tst.F97,Fn.mkX]) ?_
 simp only [Tst.F97,Fn.mkX,Tst.b97]
 have e1:=z76 h1 (Store.sub_refl _)
 have e2:=z76 h2 (Store.sub_refl _)
 simp only [e1,e2,zgm,↓vcPre,↓z8,↓reduceIte,vcPost,vcStd,Nat.reduceEqDiff,reduceCtorEq,Nat.reduceAdd,Nat.reduceLeDiff,Int.reduceLT,Int.reduceLE,↓u_setN]
 refine EndQ.to σ _ rfl (Store.sub_refl _) ⟨rfl,?_⟩
 congr 1
 rw [Bool.eq_iff_iff]
 simp only [beq_iff_eq,decide_eq_true_eq]
 exact ⟨z4q u1 u2,fun h=>by rw [h]⟩
theorem vn {B:List Int} {k:Nat} (h:k<B.length):B.getD k 0=B[k]:=by rw [List.getD_eq_getElem?_getD,List.getElem?_eq_getElem h];rfl
theorem Rd.byte {τ:Store} {B:List Int} {v:AV} (h:Rd 1 τ (B.map cB) v) {k:Nat} (hk:k<B.length):∃ p,pv (.idx 1) [v,.int .i64 (k:Int)]=some p∧∀ t,Store.sub τ t→rd t 1 p=some [.int .u8 (B.getD k 0)]:=by
 obtain ⟨p,h1,h2⟩:=h.at (k:=k) (by simpa using hk)
 refine ⟨p,h1,fun t ht => ?_⟩
 have:=h2 t ht 1
 rw [vn hk,this]
 simp [cB,takeN]
end Go.Am
namespace Go.Am
open Go.RowKit
def Imp (x y:AV):Prop:=y.flat=true∧∀ G w v,VRel G w x v→VRel G w y v
theorem Imp.refl {x:AV} (h:x.flat=true):Imp x x:=⟨h,fun _ _ _ h=>h⟩
theorem Imp.nils {esz:Nat}:Imp .nils (.sl esz []):=⟨rfl,fun _ _ _ h=>by have:=h.of_nils;subst this;exact .sl0⟩
abbrev ImpL (xs ys:List AV):Prop:=Rels Imp xs ys
theorem ImpL.refl:∀ (l:List AV),(∀ x ∈ l,x.flat=true)→ImpL l l
 | [],_ => .nil
 | x::l,h => .cons (.refl (h x (by simp))) (ImpL.refl l fun y hy=>h y (by simp [hy]))
theorem ImpL.flat {a b:List AV} (h:ImpL a b):∀ x ∈ b,x.flat=true:=by
 induction h with
 | nil=>simp
 | cons h1 _ ih=>intro x hx;exact (List.mem_cons.1 hx).elim (fun e=>e ▸ h1.1) (ih x)
theorem Imp.sl {esz:Nat} {es es':List (List AV)} (h:Rels ImpL es es'):Imp (.sl esz es) (.sl esz es'):=by
 refine ⟨rfl,fun G w v hv => ?_⟩
 by_cases he:es=[]
 ·subst he
  cases h
  exact hv
 ·have hl:=h.length
  have hne:es'≠[]:=fun e=>he (List.length_eq_zero_iff.1 (by rw [hl,e];rfl))
  have hget:∀ i (hi:i<es.length) (hi':i<es'.length),ImpL es[i] es'[i]:=fun i hi hi'=>by
   obtain ⟨b,hb,hr⟩:=h.get i _ (List.getElem?_eq_getElem hi)
   rw [List.getElem?_eq_getElem hi'] at hb;cases hb;exact hr
  cases hv with
  | sl0=>exact (he rfl).elim
  | sl vs hb hne' hcap hlen hf hc hvv =>
    have hlen':∀ cs ∈ es',cs.length=esz:=fun cs hcs=>by
     obtain ⟨i,hi,rfl⟩:=List.getElem_of_mem hcs
     rw [←(hget i (by omega) hi).length];exact hlen _ (List.getElem_mem _)
    have:=VRel.sl (G:=G) (w:=w) (esz:=esz) (es:=es') vs hb hne (by rw [←hl];exact hcap) hlen'
     (fun cs hcs=>by
       obtain ⟨i,hi,rfl⟩:=List.getElem_of_mem hcs
       exact (hget i (by omega) hi).flat)
     (fun i j hi hj=>hc i j (by omega) hj)
     (fun i j hi hj=>by
       have h1:=hget i (by omega) hi
       obtain ⟨b,hb',hr⟩:=h1.get j _ (List.getElem?_eq_getElem (by rw [h1.length];exact hj))
       rw [List.getElem?_eq_getElem hj] at hb';cases hb'
       exact hr.2 _ _ _ (hvv i j (by omega) (by rw [h1.length];exact hj)))
    rw [hl];exact this
theorem ImpL.append {a b c d:List AV} (h:ImpL a b) (h':ImpL c d):ImpL (a++c) (b++d):=Rels.append h h'
theorem ImpL.one {x:AV} (h:x.flat=true):ImpL [x] [x] := .cons (.refl h) .nil
end Go.Am
