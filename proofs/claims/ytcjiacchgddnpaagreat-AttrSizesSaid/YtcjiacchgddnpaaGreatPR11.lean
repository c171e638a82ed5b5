/- A part of the proof: a logic for calls over plain values, and the functions that the law reaches, each walked once. -/
import Derived.Test.YtcjiacchgddnpaaGreatPR10
import Derived.RangeFuncBox
import Derived.RangeFuncLeaves
import Derived.Shelf.Abstract
import Derived.WalkKit
import Derived.OwnWalkIn
import Derived.TacticsInMore
import Derived.LoopNIn
import Derived.LoopIn
import Derived.Maps.AppendAt
import Derived.Test.YtcjiacchgddnpaaGreatProg
set_option linter.unusedVariables false
set_option linter.unusedSimpArgs false
set_option linter.unusedSectionVars false
namespace Go.Am.AS
open Go.RowKit Go.Shelf Go.Proofs
set_option linter.unusedVariables false
set_option linter.unusedSimpArgs false
attribute [local go_sem] Oper.semAt_some
def upto {α:Type} (f:Nat→α) (k:Nat):List α:=(List.range k).map f
theorem z11 {α:Type} (f:Nat→α) (k:Nat):upto f (k+1)=upto f k++[f k]:=by simp [upto,List.range_succ]
theorem z2r {α:Type} (f:Nat→α) (k:Nat):(upto f k).length=k:=by simp [upto]
theorem z7l (zs:List Int):upto (fun j=>zs[j]?.getD 0) zs.length=zs:=by
 apply List.ext_getElem
 ·simp [upto]
 ·intro i h1 h2
  simp [upto,h2]
set_option maxRecDepth 100000 in
set_option maxHeartbeats 2000000 in
theorem z4p (F:Fence) (n:Nat) (h7:F.fn 147) (hro:F.round=none) (hn:1≤n) (l Bs oB n₀ b off len cap:Nat) (pa:Option Addr) (zs:List Int) (hreach:len≤9223372036854775806) (hpa:0<len→pa=some ⟨b,off,none⟩∧b<n₀) (J Jx:List Int→World→Prop)
 (hY:∀ pre x W,J pre W→pre.length<len→YieldAt F (n - 1) Tryz.prog l #[.int .u32 x] W fun e W' =>
   (e = .returned (.bool true)∧J (pre++[x]) W'∧Below n₀ W W')∨(e = .returned (.bool false)∧Jx (pre++[x]) W'))
 (W:World) (hBs:W.cell? ⟨Bs,oB,none⟩=some (.slice pa len cap)) (hc:∀ j,j<len→W.cell? ⟨b,off+j,none⟩=some (.int .u32 (zs[j]?.getD 0))) (h0:J [] W) :
 CallsIn F n Tryz.prog 147 #[.func (.yield l) #[] #[],.pointer (some ⟨Bs,oB,none⟩)] W fun e W'=>(∃ v,e = .returned v) ∧
  ((∃ ys,ys=upto (fun j=>zs[j]?.getD 0) len∧J ys W')∨(∃ pre,(∃ k,k≤len∧pre=upto (fun j=>zs[j]?.getD 0) k)∧Jx pre W')):=by
 refine callsIn_of_wp Tryz.func147 rfl h7 ?_ hro
 simp only [Tryz.ntmps147,List.size_toArray,List.length_cons,List.length_nil,Nat.reduceAdd,Nat.reduceSub,Array.replicate_succ,Array.replicate_zero,List.push_toArray,List.append_toArray,List.nil_append,List.cons_append]
 gi_wp2
 gi_loopw [7] (fun i wr=>∃ k:Nat,k≤len∧i = .int .i64 k∧J (upto (fun j=>zs[j]?.getD 0) k) wr∧Below n₀ W wr)
  (fun i _=>len - (intOf i).toNat)
 case atStart=>exact ⟨0,Nat.zero_le _,rfl,h0,Below.refl _ _⟩
 case round =>
  obtain ⟨k,hk,rfl,hJs,hnx⟩:=hrel
  have hcx:b<n₀→k<len→wr.cell? ⟨b,off+k,none⟩=some (.int .u32 (zs[k]?.getD 0)):=fun hb h=>(hnx.cell (p:=⟨b,off+k,none⟩) hb).trans (hc k h)
  by_cases hlt:k<len
  ·obtain ⟨fn,tmps,assign,body,hy,hR⟩:=hY _ (zs[k]?.getD 0) wr hJs (by rw [z2r];exact hlt)
   obtain ⟨hpa1,hb⟩:=hpa (by omega)
   subst hpa1
   have hcx':=hcx hb hlt
   gi_wp2
   refine hR.mono ?_
   rintro e W3 (⟨rfl,hJ3,hk3⟩ | ⟨rfl,hJx3⟩)
   ·gi_wp2
    go_roundw
    case rel=>exact ⟨k+1,by omega,by simp,by rw [z11];exact hJ3,hnx.trans hk3⟩
    case measure=>simp [intOf];omega
   ·gi_wp2
    refine bodyPost_ret (results_none rfl _ _ _) rfl ?_
    exact ⟨⟨_,rfl⟩,.inr ⟨_,⟨k+1,by omega,(z11 _ _).symm⟩,hJx3⟩⟩
  ·obtain rfl:k=len:=by omega
   gi_wp2
   go_end0
   exact ⟨⟨_,rfl⟩,.inl ⟨_,rfl,hJs⟩⟩
theorem z2e (F:Fence) (n:Nat) (h7:F.fn 147) (hro:F.round=none) (hn:1≤n) (Bs oB n₀ b off cap:Nat) (pa:Option Addr) (zs:List Int) (w:World) (hreach:zs.length≤9223372036854775806) (hBs:Bs<w.heap.size) (hn₀:n₀≤w.heap.size) (hpa:0<zs.length→pa=some ⟨b,off,none⟩∧b<n₀)
 (hc0:w.cell? ⟨Bs,oB,none⟩=some (.slice pa zs.length cap)) (hc:∀ j,j<zs.length→w.cell? ⟨b,off+j,none⟩=some (.int .u32 (zs[j]?.getD 0))) :
 SeqStopsK F n Tryz.prog 147 #[.pointer (some ⟨Bs,oB,none⟩)] (fun x:Int => #[Value.int .u32 x]) (Below n₀) (fun ys=>ys=zs) (fun _=>True) zs.length w:=fun l J Jx W hW _ _ hY h0=>by
 refine (z4p F n h7 hro hn l Bs oB n₀ b off zs.length cap pa zs hreach hpa J Jx hY W ((hW.cell (p:=⟨Bs,oB,none⟩) hBs).trans hc0) (fun j hj=>(hW.cell (p:=⟨b,off+j,none⟩) (Nat.lt_of_lt_of_le (hpa (by omega)).2 hn₀)).trans (hc j hj)) h0).mono ?_
 rintro e W' ⟨hv,⟨ys,h1,h2⟩ | ⟨pre,_,h2⟩⟩
 ·exact ⟨hv,.inl ⟨ys,by rw [h1,z7l],h2⟩⟩
 ·exact ⟨hv,.inr ⟨pre,trivial,h2⟩⟩
theorem zcx:(Tryz.prog.info? 23).map (fun i=>(i.zero,i.size,i.bytes))=some (some (.int .u32 0),1,4):=by kernel_rfl
set_option maxRecDepth 100000 in
set_option maxHeartbeats 2000000 in
theorem z4t (F:Fence) (n:Nat) (h3:F.fn 161) (h5:F.fn 147) (hro:F.round=none) (hn:3≤n) (Bs oB b off cap:Nat) (pa:Option Addr) (zs:List Int) (hlen:zs.length*4≤140737488355328) (w:World) (hBs:Bs<w.heap.size) (hpa:0<zs.length→pa=some ⟨b,off,none⟩∧b<w.heap.size)
 (hc0:w.cell? ⟨Bs,oB,none⟩=some (.slice pa zs.length cap)) (hcs:∀ j,j<zs.length→w.cell? ⟨b,off+j,none⟩=some (.int .u32 (zs[j]?.getD 0))) :
 CallsIn F n Tryz.prog 161 #[.slice none 0 0,.func (.func 147) #[] #[.pointer (some ⟨Bs,oB,none⟩)]] w fun e W'=>∃ v,e = .returned v∧W'.ownsRow w.heap.size 23 1 v zs.length (zs.map (Value.int .u32))∧(v = .slice none 0 0↔zs=[])∧Below w.heap.size w W':=by
 have h1:1≤n:=by omega
 have hml:zs.length≤maxLen:=by unfold maxLen;omega
 obtain ⟨i0,hi,hz0,hz1,hz2⟩:=info_parts zcx
 refine callsIn_of_wp_marks Tryz.func161 rfl h3 ?_ hro
 simp only [Tryz.ntmps161,List.size_toArray,List.length_cons,List.length_nil,Nat.reduceAdd,Nat.reduceSub,Array.replicate_succ,Array.replicate_zero,List.push_toArray,List.append_toArray,List.nil_append,List.cons_append]
 gi_wp2
 have bO:=Boxed.new w 24 (.slice none 0 0)
 have hB0:Below w.heap.size w (w.alloc (.cells #[.slice none 0 0] 24)):=(Below.refl _ w).alloc (Nat.le_refl _) _
 refine wpIn_rangeFunc_ownG hro h1 (gf:=147) (lb := #[.pointer (some ⟨Bs,oB,none⟩)]) rfl h5 (enters_of Tryz.func147 (by kernel_rfl) rfl)
  (z2e F (n - 1) h5 hro (by omega) Bs oB w.heap.size b off cap pa zs _ (by omega) (by simp;omega) (by simp) hpa ((hB0.cell (p:=⟨Bs,oB,none⟩) hBs).trans hc0) (fun j hj=>(hB0.cell (p:=⟨b,off+j,none⟩) (hpa (by omega)).2).trans (hcs j hj))) belowK_t (belowK_b (by simp)) (Below.refl _ _) (fun _=>rfl)
  (fun pre W=>(∃ v,Boxed W w.heap.size 24 v∧W.ownsRow w.heap.size 23 1 v pre.length (pre.map (Value.int .u32))∧(v = .slice none 0 0↔pre=[]))∧Below w.heap.size w W)
  (fun _ _ _=>False)
  (OwnFrom.and (Own.from (holdsRow_own w.heap.size w.heap.size 24 23 1 (fun pre:List Int=>pre.length) (fun pre=>pre.map (Value.int .u32)) (fun pre v=>v = .slice none 0 0↔pre=[])) _) (ownFrom_below (Nat.le_refl _) (by simp)))
  (fun _ _ _ _ _ hs _ _=>hs)
  ⟨⟨_,bO,World.ownsRow_nil _ _ _ _,by simp⟩,hB0⟩
  (fun x=>{ tmps := #[.slice none 0 0,.func (.func 147) #[] #[.pointer (some ⟨Bs,oB,none⟩)],.pointer (some ⟨w.heap.size,0,none⟩),undef,.slice none 0 0,.int .u32 x,.func (.func 147) #[] #[.pointer (some ⟨Bs,oB,none⟩)],.int .u32 x,undef,undef,undef,undef,undef],defers:=[] }) ?assign ?body ?done ?stop
 case assign =>
  intro l x W K hK
  gi_wp2
  exact hK
 case body =>
  rintro l pre x W ⟨⟨v,hv,hrow,hnil⟩,hB⟩ hlt
  have hc:=hv.cell
  gi_wp2_with (gi_at_builtin;refine wpListIn_append_own _ rfl _ _ 24 rfl w.heap.size 23 i0 (.int .u32 0) 1 4 Tryz.underlying24 hi hz0 hz1 hz2 rfl (by decide) _ _ _ rfl (hrow.alloc _) ⟨W.heap.size,0,none⟩ 1 1 [.int .u32 x] rfl rfl (cell_one_new _ _ _) (by simp [Value.oneCell']) (by omega) (by omega) (by have:=hB.size;simp;omega) ?_;intro v' w1 hown' hgrow _;obtain ⟨g',cap',rfl⟩:=ownsRow_succ hown';obtain ⟨hv1,hv2,hr2,hk2,hb2⟩:=hv.appended (by decide) hrow hB.size (Nat.le_refl _) hown' hgrow;have hc1:=hv1.cell;have hf1:=hv1.frozen)
  exact ⟨hk2.from _,hb2,⟨_,hv2,by simpa using hr2,by simp⟩,hB.trans hb2⟩
 case done =>
  rintro D ys W hD rfl ⟨⟨v,hv,hrow,hnil⟩,hB⟩ hK
  have hc:=hv.cell
  gi_wp2
  refine ⟨by simp,.inl ⟨_,_,rfl,run_takeDeferred hK,?_⟩⟩
  exact ⟨_,results_tmp rfl _ _ _,v,rfl,ownsRow_putObj hrow _ hK rfl,hnil,hB.trans (belowK_b (w:=w) (Nat.le_refl _) W D _ _ (by simp at hD;omega) hK rfl rfl)⟩
 case stop =>
  rintro D c pre W _ _ h _
  exact h.elim
theorem append_calls:Go.Am.SeqHolds Tryz.prog 161 147 .u32 23 4:=fun Bs oB b off cap pa zs w hlen hBs hpa hc0 hcs =>
 (callsIn_wide (n:=3)).1 (z4t _ 3 trivial trivial rfl (Nat.le_refl _) Bs oB b off cap pa zs hlen w hBs hpa hc0 hcs)
theorem ent:Go.Am.Ent Tryz.prog 161:=⟨_,Tryz.func161,by decide,rfl⟩
end Go.Am.AS
namespace Go.Am
open Go.Proofs Go.Sort
def cU (x:Int):List AV:=[.int .u32 x]
abbrev LessU:Prop:=∀ x y:Int,Pur Tryz.prog 171 [.int .u32 x,.int .u32 y] (.bool (decide (cfU x y<0)))
theorem z6e (x:Int):Pur Tryz.prog 151 [.int .u32 x] (.bool false):=by
 refine zl Tst.F151 (by simp [Tst.F151,Fn.mkX]) fun σ => ?_
 simp only [Tst.F151,Fn.mkX,Tst.b151]
 simp only [↓vcPre,↓z0,↓reduceIte,vcPost,vcStd,Nat.reduceEqDiff,reduceCtorEq,Nat.reduceAdd,Nat.reduceLeDiff,Int.reduceLT,Int.reduceLE,↓u_setN]
theorem zcz:LessU:=by
 intro x y
 refine zl Tst.F171 (by simp [Tst.F171,Fn.mkX]) fun σ => ?_
 simp only [Tst.F171,Fn.mkX,Tst.b171]
 simp only [↓vcPre,↓z0,↓reduceIte,vcPost,vcStd,Nat.reduceEqDiff,reduceCtorEq,Nat.reduceAdd,Nat.reduceLeDiff,Int.reduceLT,Int.reduceLE,↓u_setN]
 refine (z6e x).Q ?_
 simp only [↓vcPre,↓z0,↓reduceIte,vcPost,vcStd,Nat.reduceEqDiff,reduceCtorEq,Nat.reduceAdd,Nat.reduceLeDiff,Int.reduceLT,Int.reduceLE,↓u_setN]
 have e:decide (x<y)=decide (cfU x y<0):=by
  rw [Bool.eq_iff_iff,decide_eq_true_eq,decide_eq_true_eq];unfold cfU;omega
 rw [e]
theorem hU:SH Tryz.prog NU .u32:=zck zcz z6c zah zaw
theorem zew {σ:Store} {b:Nat} {S:AV} {zs:List Int} (hbox:σ b=some (.box [S])) (hS:slc σ 1 S=some (zs.map cU)) (hle:zs.length≤1000000000) :
 ACalls Tryz.prog 112 [.fn 147 [.ptr b 0]] σ (fun r s=>(zs=[]∧r = .nils∧s=σ)∨(zs≠[]∧∃ g,∃ L:List Int,σ g=none∧L.Perm zs∧L.Pairwise (· ≤ ·)∧r = .os g 1 0 L.length∧s=σ.set g (.arr 1 (L.map cU)))):=by
 refine zf Tst.F112 (by simp [Tst.F112,Fn.mkX]) ?_
 simp only [Tst.F112,Fn.mkX,Tst.b112]
 simp only [↓vcPre,↓z0,↓reduceIte,vcPost,vcStd,Nat.reduceEqDiff,reduceCtorEq,Nat.reduceAdd,Nat.reduceLeDiff,Int.reduceLT,Int.reduceLE,↓u_setN]
 have hcol:ACalls Tryz.prog 145 [.fn 147 [.ptr b 0]] σ (fun a s=>(zs=[]∧a = .nils∧s=σ)∨(zs≠[]∧∃ g,σ g=none∧a = .os g 1 0 zs.length∧s=σ.set g (.arr 1 (zs.map cU)))):=by
  refine zf Tst.F145 (by simp [Tst.F145,Fn.mkX]) ?_
  simp only [Tst.F145,Fn.mkX,Tst.b145]
  simp only [↓vcPre,↓z0,↓reduceIte,vcPost,vcStd,Nat.reduceEqDiff,reduceCtorEq,Nat.reduceAdd,Nat.reduceLeDiff,Int.reduceLT,Int.reduceLE,↓u_setN]
  refine (z7a AS.ent AS.append_calls hbox hS (by omega)).Q ?_
  rintro r s (⟨hz,rfl,rfl⟩ | ⟨hz,g,hg,rfl,rfl⟩)
  ·simp only [↓vcPre,↓z0,↓reduceIte,vcPost,vcStd,Nat.reduceEqDiff,reduceCtorEq,Nat.reduceAdd,Nat.reduceLeDiff,Int.reduceLT,Int.reduceLE,↓u_setN]
   exact EndQ.to _ _ rfl (Store.sub_refl _) (.inl ⟨hz,rfl,rfl⟩)
  ·simp only [↓vcPre,↓z0,↓reduceIte,vcPost,vcStd,Nat.reduceEqDiff,reduceCtorEq,Nat.reduceAdd,Nat.reduceLeDiff,Int.reduceLT,Int.reduceLE,↓u_setN]
   exact EndQ.to _ _ rfl (Store.sub_refl _) (.inr ⟨hz,g,hg,rfl,rfl⟩)
 refine hcol.Q ?_
 rintro r s (⟨hz,rfl,rfl⟩ | ⟨hz,g,hg,rfl,rfl⟩)
 ·simp only [↓vcPre,↓z0,↓reduceIte,vcPost,vcStd,Nat.reduceEqDiff,reduceCtorEq,Nat.reduceAdd,Nat.reduceLeDiff,Int.reduceLT,Int.reduceLE,↓u_setN]
  refine (z33 hU _).Q ?_
  rintro r s ⟨rfl,rfl⟩
  simp only [↓vcPre,↓z0,↓reduceIte,vcPost,vcStd,Nat.reduceEqDiff,reduceCtorEq,Nat.reduceAdd,Nat.reduceLeDiff,Int.reduceLT,Int.reduceLE,↓u_setN]
  exact EndQ.to _ _ rfl (Store.sub_refl _) (.inl ⟨hz,rfl,rfl⟩)
 ·simp only [↓vcPre,↓z0,↓reduceIte,vcPost,vcStd,Nat.reduceEqDiff,reduceCtorEq,Nat.reduceAdd,Nat.reduceLeDiff,Int.reduceLT,Int.reduceLE,↓u_setN]
  refine (z1m hU (L:=zs) (Store.set_same _ _ _) (by omega)).Q ?_
  rintro r s ⟨rfl,L,hp,hl,rfl⟩
  simp only [↓vcPre,↓z0,↓reduceIte,vcPost,vcStd,Nat.reduceEqDiff,reduceCtorEq,Nat.reduceAdd,Nat.reduceLeDiff,Int.reduceLT,Int.reduceLE,↓u_setN]
  exact EndQ.to _ _ rfl (Store.sub_refl _) (.inr ⟨hz,g,L,hg,hp,hl,by rw [hp.length_eq],by rw [Store.set_set];rfl⟩)
theorem zex (S:AV) (hS:S.isTup=false∧S.cells=[S]) (σ:Store):ACalls Tryz.prog 113 [S] σ (fun r s=>∃ b,σ b=none∧r = .fn 147 [.ptr b 0]∧s=σ.set b (.box [S])):=by
 refine zf Tst.F113 (by simp [Tst.F113,Fn.mkX]) ?_
 simp only [Tst.F113,Fn.mkX,Tst.b113]
 simp only [hS.1,hS.2,↓vcPre,↓z0,↓reduceIte,vcPost,vcStd,Nat.reduceEqDiff,reduceCtorEq,Nat.reduceAdd,Nat.reduceLeDiff,Int.reduceLT,Int.reduceLE,↓u_setN]
 refine AllocQ.i0 fun b hb => ?_
 simp only [↓vcPre,↓z0,↓reduceIte,vcPost,vcStd,Nat.reduceEqDiff,reduceCtorEq,Nat.reduceAdd,Nat.reduceLeDiff,Int.reduceLT,Int.reduceLE,↓u_setN]
 exact EndQ.to _ _ rfl (Store.sub_refl _) ⟨b,hb,rfl,rfl⟩
end Go.Am
namespace Go.Am
open Go.Proofs Go.Sort
theorem zda {P:Program} {n:Nat} {z:List AV} {a:AV} {σ:Store} {K:AV→Store→Prop}:lwp P (.clr n z) [a] σ K↔clrwp n z a σ (K (.tup [])):=by simp only [lwp]
def ddA:List Int→List Int
 | []=>[]
 | [a]=>[a]
 | a::b::r=>if a=b then ddA (b::r) else a::ddA (b::r)
theorem z1g (x:Int):∀ l:List Int,ddA (l++[x])=if l.getLast? = some x then ddA l else ddA l++[x]
 | []=>by simp [ddA]
 | [a]=>by
   by_cases h:a=x
   ·simp [ddA,h]
   ·simp [ddA,h]
 | a::b::r=>by
   have ih:=z1g x (b::r)
   simp only [List.cons_append] at ih ⊢
   simp only [ddA,List.getLast?_cons_cons]
   rw [ih]
   by_cases hab:a=b
   ·simp only [hab,if_true]
   ·simp only [hab,if_false]
    split <;> simp
theorem qg {L:List Int} {k:Nat} (h1:1≤k) (h:k<L.length):ddA (L.take (k+1))=if L[k - 1]'(by omega)=L[k] then ddA (L.take k) else ddA (L.take k)++[L[k]]:=by
 have e:L.take (k+1)=L.take k++[L[k]]:=by rw [List.take_add_one,List.getElem?_eq_getElem h];rfl
 rw [e,z1g]
 have:(L.take k).getLast? = some (L[k - 1]'(by omega)):=by
  rw [List.getLast?_eq_getElem?,List.length_take,Nat.min_eq_left (by omega),List.getElem?_take_of_lt (by omega),List.getElem?_eq_getElem (by omega)]
 rw [this]
 simp
theorem zev {σ:Store} {g:Nat} {L:List Int} (hσ:σ g=some (.arr 1 (L.map cU))) (hl:L.length<1000000000000) :
 ACalls Tryz.prog 111 [.os g 1 0 L.length] σ (fun r s=>∃ M:List Int,M.length=L.length∧M.take (ddA L).length=ddA L∧(ddA L).length≤L.length∧r = .os g 1 0 (ddA L).length∧s=σ.set g (.arr 1 (M.map cU))):=by
 refine zf Tst.F111 (by simp [Tst.F111,Fn.mkX]) ?_
 simp only [Tst.F111,Fn.mkX,Tst.b111]
 simp only [↓vcPre,↓z0,↓reduceIte,vcPost,vcStd,Nat.reduceEqDiff,reduceCtorEq,Nat.reduceAdd,Nat.reduceLeDiff,Int.reduceLT,Int.reduceLE,↓u_setN]
 refine ⟨fun c0 => ?_,fun c0 => ?_⟩
 ·have hd:ddA L=L:=by
   match L,c0 with
   | [],_=>rfl
   | [a],_=>rfl
   | a::b::r,h=>simp at h;omega
  refine EndQ.to σ _ rfl (Store.sub_refl _) ⟨L,rfl,by rw [hd];simp,by rw [hd];exact Nat.le_refl _,by rw [hd],(Store.set_self hσ).symm⟩
 ·have eS:σ=σ.set g (.arr 1 (L.map cU)):=(Store.set_self hσ).symm
  refine LoopQ.inv (S:=Nat) (fun k=>[(0,.os g 1 0 L.length),(3,.int .i64 (k:Int))]) (fun _=>σ) (fun k=>1≤k∧k≤L.length∧ddA (L.take k)=L.take k) (fun k=>L.length+1 - k) 1 rfl (Store.sub_refl _) ⟨by omega,by omega,by
   cases L with
   | nil=>rfl
   | cons a r=>simp [ddA]⟩ ?_
  rintro k ⟨h1,h2,h3⟩
  simp only [hσ,↓vcPre,↓z0,↓reduceIte,vcPost,vcStd,Nat.reduceEqDiff,reduceCtorEq,Nat.reduceAdd,Nat.reduceLeDiff,Int.reduceLT,Int.reduceLE,↓u_setN]
  have ek:IntKind.i64.wrap ((k:Int)+1)=((k+1:Nat):Int):=by rw [za (by unfold I64;omega)];omega
  have em:IntKind.i64.wrap ((k:Int) - 1)=((k - 1:Nat):Int):=by rw [za (by unfold I64;omega)];omega
  refine ⟨fun c1 => ?_,fun c1 => ?_⟩
  ·simp only [em,Int.toNat_natCast]
   refine ⟨by omega,by omega,by omega,by simp [cU],?_⟩
   simp only [cU,ek,em,Nat.zero_add,Option.getD_none,↓vcPre,↓z0,↓reduceIte,vcPost,vcStd,Nat.reduceEqDiff,reduceCtorEq,Nat.reduceAdd,Nat.reduceLeDiff,Int.reduceLT,Int.reduceLE,↓u_setN]
   refine ⟨by omega,fun c2 => ?_,fun c2 => ?_⟩
   ·refine ⟨by omega,?_⟩
    have hd0:ddA (L.take (k+1))=L.take k:=by
     rw [qg h1 c1,if_pos c2.symm,h3]
    refine LoopQ.inv (S:=Nat×Nat×List Int) (fun q=>[(0,.os g 1 0 L.length),(3,.int .i64 (q.1:Int)),(4,.os g 1 k (L.length - k)),(5,.int .i64 (q.2.1:Int))]) (fun q=>σ.set g (.arr 1 (q.2.2.map cU)))
     (fun q=>1≤q.2.1∧k+q.2.1≤L.length∧1≤q.1∧q.1+1≤k+q.2.1∧q.2.2.length=L.length∧q.2.2.take q.1=ddA (L.take (k+q.2.1))∧q.1=(ddA (L.take (k+q.2.1))).length∧q.2.2.drop (k+q.2.1 - 1)=L.drop (k+q.2.1 - 1)) (fun q=>L.length+1 - q.2.1) (k,1,L) rfl (by rw [←eS];exact Store.sub_refl _)
     ⟨by simp only;omega,by simp only;omega,by simp only;omega,by simp only;omega,rfl,by simp only [hd0],by simp only [hd0,List.length_take];omega,rfl⟩ ?_
    rintro ⟨p,m,M⟩ ⟨g1,g2,g3,g4,g5,g6,g7,g8⟩
    simp only at g1 g2 g3 g4 g5 g6 g7 g8
    simp only [Nat.zero_add,↓vcPre,↓z0,↓reduceIte,vcPost,vcStd,Nat.reduceEqDiff,reduceCtorEq,Nat.reduceAdd,Nat.reduceLeDiff,Int.reduceLT,Int.reduceLE,↓u_setN]
    have en:IntKind.i64.wrap ((m:Int)+1)=((m+1:Nat):Int):=by rw [za (by unfold I64;omega)];omega
    have ep:IntKind.i64.wrap ((p:Int)+1)=((p+1:Nat):Int):=by rw [za (by unfold I64;omega)];omega
    have eq:IntKind.i64.wrap ((m:Int) - 1)=((m - 1:Nat):Int):=by rw [za (by unfold I64;omega)];omega
    refine ⟨fun d1 => ?_,fun d1 => ?_⟩
    ·have hM1:M[k+m]'(by omega)=L[k+m]'(by omega):=by
      have:=congrArg (fun l:List Int=>l[1]?) g8
      simp only [List.getElem?_drop] at this
      rw [show k+m - 1+1=k+m by omega,List.getElem?_eq_getElem (by omega),List.getElem?_eq_getElem (by omega)] at this
      exact Option.some.inj this
     have hM0:M[k+(m - 1)]'(by omega)=L[k+m - 1]'(by omega):=by
      have:=congrArg (fun l:List Int=>l[0]?) g8
      simp only [List.getElem?_drop,Nat.add_zero] at this
      rw [List.getElem?_eq_getElem (by omega),List.getElem?_eq_getElem (by omega)] at this
      have h9:=Option.some.inj this
      have e9:k+(m - 1)=k+m - 1:=by omega
      simp only [e9];exact h9
     have hstep:=qg (L:=L) (k:=k+m) (by omega) (by omega)
     simp only [eq,Int.toNat_natCast]
     refine ⟨by omega,⟨by omega,by omega⟩,by omega,by simp [cU],?_⟩
     simp only [hM1,hM0]
     simp only [cU,en,ep,Nat.zero_add,hM1,hM0,↓vcPre,↓z0,↓reduceIte,vcPost,vcStd,Nat.reduceEqDiff,reduceCtorEq,Nat.reduceAdd,Nat.reduceLeDiff,Int.reduceLT,Int.reduceLE,↓u_setN]
     refine ⟨by omega,fun e1=>⟨by omega,by omega,by omega,by omega,?_⟩,fun e1 => ?_⟩
     ·have eset:(List.map cU M).set p [AV.int IntKind.u32 (L[k+m]'(by omega))]=(M.set p (L[k+m]'(by omega))).map cU:=by rw [List.map_set];rfl
      rw [eset,Store.set_set]
      rw [if_neg (fun e=>e1 e.symm)] at hstep
      have el:(ddA (L.take (k+m+1))).length=p+1:=by rw [hstep,List.length_append,←g7];rfl
      refine NextQ.to (p+1,m+1,M.set p (L[k+m]'(by omega))) rfl (Store.sub_refl _) (by simp only;omega)
       ⟨by simp only;omega,by simp only;omega,by simp only;omega,by simp only;omega,by simp [g5],?_,?_,?_⟩
      ·simp only
       rw [show k+(m+1)=k+m+1 by omega,hstep,List.take_add_one,List.take_set,List.getElem?_set_self (by omega),←g6,List.set_eq_of_length_le (by simp;omega)]
       rfl
      ·simp only
       rw [show k+(m+1)=k+m+1 by omega,el]
      ·simp only
       rw [List.drop_set,if_pos (by omega),show k+(m+1) - 1=(k+m - 1)+1 by omega,←List.drop_drop,←List.drop_drop (l:=L),g8]
     ·rw [if_pos e1.symm] at hstep
      refine NextQ.to (p,m+1,M) rfl (Store.sub_refl _) (by simp only;omega)
       ⟨by simp only;omega,by simp only;omega,by simp only;omega,by simp only;omega,g5,?_,?_,?_⟩
      ·simp only
       rw [show k+(m+1)=k+m+1 by omega,hstep,g6]
      ·simp only
       rw [show k+(m+1)=k+m+1 by omega,hstep,g7]
      ·simp only
       rw [show k+(m+1) - 1=(k+m - 1)+1 by omega,←List.drop_drop,←List.drop_drop (l:=L),←g8]
    ·have hkm:L.take (k+m)=L:=List.take_of_length_le (by omega)
     rw [hkm] at g6 g7
     simp only [Option.getD_none,Option.getD_some,Int.toNat_natCast]
     refine ⟨by omega,?_⟩
     rw [zda]
     simp only [clrwp,Store.set_same]
     refine ⟨trivial,trivial,by simp;omega,by omega,?_⟩
     have e1:(List.map cU M).take p++(List.replicate (L.length - p) [AV.int IntKind.u32 0]++(List.map cU M).drop (p+(L.length - p)))=(M.take p++List.replicate (L.length - p) 0).map cU:=by
      rw [List.drop_eq_nil_of_le (by simp;omega)]
      simp [cU,List.map_take]
     rw [e1,Store.set_set]
     refine EndQ.to (σ.set g (.arr 1 ((M.take p++List.replicate (L.length - p) 0).map cU))) _ rfl (Store.sub_refl _) ⟨_,by simp;omega,by rw [←g7,List.take_left' (by simp;omega)];exact g6,by omega,by rw [←g7];simp,rfl⟩
   ·refine NextQ.to (k+1) rfl (Store.sub_refl _) (by omega) ⟨by omega,by omega,?_⟩
    rw [qg h1 c1,if_neg (fun e=>c2 e.symm),h3,List.take_add_one,List.getElem?_eq_getElem c1]
    rfl
  ·have hk:L.take k=L:=List.take_of_length_le (by omega)
   rw [hk] at h3
   refine EndQ.to σ _ rfl (Store.sub_refl _) ⟨L,rfl,by rw [h3];simp,by rw [h3];exact Nat.le_refl _,by rw [h3],(Store.set_self hσ).symm⟩
end Go.Am
namespace Go.Am
open Go.Proofs Go.Sort
structure Seg where
 kind:Int
 ls:List Int
def Seg.c (s:Seg):List AV:=[.int .i64 s.kind,.sl 1 (s.ls.map cU)]
structure At where
 org:Int
 path:List Seg
 nxt:Int
 hm:Bool
 med:Int
 hp:Bool
 prf:Int
 atm:Bool
 cms:List Int
def At.c (a:At):List AV:=[.int .i64 a.org,.sl 2 (a.path.map Seg.c),.int .u32 a.nxt,.bool a.hm,.int .u32 a.med,.bool a.hp,.int .u32 a.prf,.bool a.atm,.sl 1 (a.cms.map cU)]
def Seg.ok (s:Seg):Prop:=s.ls.length≤1000000
def At.ok (a:At):Prop:=a.path.length≤1000000∧(∀ s ∈ a.path,s.ok)∧a.cms.length≤1000000
theorem zei (zs:List Int) (h:zs.length≤1000000000):Pur Tryz.prog 144 [.sl 1 (zs.map cU)] (.sl 1 (zs.map cU)):=by
 intro σ
 refine zf Tst.F144 (by simp [Tst.F144,Fn.mkX]) ?_
 simp only [Tst.F144,Fn.mkX,Tst.b144]
 simp only [↓vcPre,↓z0,↓reduceIte,vcPost,vcStd,Nat.reduceEqDiff,reduceCtorEq,Nat.reduceAdd,Nat.reduceLeDiff,Int.reduceLT,Int.reduceLE,↓u_setN]
 show nilqwp false (.sl 1 (zs.map cU)) _
 refine z5z fun b hb => ?_
 cases b with
 | true =>
   have hl:zs=[]:=by
    cases zs with
    | nil=>rfl
    | cons x r=>have:=hb (by simp);cases this
   subst hl
   simp only [↓vcPre,↓z0,↓reduceIte,vcPost,vcStd,Nat.reduceEqDiff,reduceCtorEq,Nat.reduceAdd,Nat.reduceLeDiff,Int.reduceLT,Int.reduceLE,↓u_setN]
   exact EndQ.nil1 1 σ rfl (Store.sub_refl _) ⟨rfl,rfl⟩
 | false =>
   simp only [↓vcPre,↓z0,↓reduceIte,vcPost,vcStd,Nat.reduceEqDiff,reduceCtorEq,Nat.reduceAdd,Nat.reduceLeDiff,Int.reduceLT,Int.reduceLE,↓u_setN]
   refine AllocQ.i0 fun i hi => ?_
   simp only [↓vcPre,↓z0,↓reduceIte,vcPost,vcStd,Nat.reduceEqDiff,reduceCtorEq,Nat.reduceAdd,Nat.reduceLeDiff,Int.reduceLT,Int.reduceLE,↓u_setN]
   refine ym (zj (Store.set_same _ _ _) rfl) (y := .sl 1 (zs.map cU)) xy (by simp;omega) fun j hj => ?_
   simp only [List.nil_append,List.length_nil,Nat.zero_add]
   refine EndQ.frz j 1 0 _ (zs.map cU) σ rfl (Store.set_same _ _ _) (by simp) (vf hi hj) ⟨rfl,?_⟩
   rw [List.drop_zero,List.take_of_length_le (by simp)]
theorem zee (p:List Seg) (h:p.length≤1000000) (ho:∀ s ∈ p,s.ok):Pur Tryz.prog 110 [.sl 2 (p.map Seg.c)] (.sl 2 (p.map Seg.c)):=by
 intro σ
 refine zf Tst.F110 (by simp [Tst.F110,Fn.mkX]) ?_
 simp only [Tst.F110,Fn.mkX,Tst.b110]
 simp only [↓vcPre,↓z0,↓reduceIte,vcPost,vcStd,Nat.reduceEqDiff,reduceCtorEq,Nat.reduceAdd,Nat.reduceLeDiff,Int.reduceLT,Int.reduceLE,↓u_setN]
 refine LoopQ.inv (S:=Nat×AV×Store) (fun q=>[(3,q.2.1),(6,.sl 2 (p.map Seg.c)),(7,.int .i64 (p.length:Int)),(8,.int .i64 (q.1:Int))]) (fun q=>q.2.2)
  (fun q=>q.1≤p.length∧Store.sub σ q.2.2∧Own 2 σ ((p.take q.1).map Seg.c) q.2.1 q.2.2) (fun q=>p.length+1 - q.1) (0,.nils,σ) rfl (Store.sub_refl _) ⟨by simp only;omega,Store.sub_refl _,.nil⟩ ?_
 rintro ⟨k,v,s⟩ ⟨hk,hs,ho'⟩
 simp only at hk hs ho'
 simp only [↓vcPre,↓z0,↓reduceIte,vcPost,vcStd,Nat.reduceEqDiff,reduceCtorEq,Nat.reduceAdd,Nat.reduceLeDiff,Int.reduceLT,Int.reduceLE,↓u_setN]
 refine ⟨fun c1 => ?_,fun c1 => ?_⟩
 ·have ek:IntKind.i64.wrap ((k:Int)+1)=((k+1:Nat):Int):=by rw [za (by unfold I64;omega)];omega
  refine ⟨c1,by simp [Seg.c],?_⟩
  refine AllocQ.i0 fun i hi => ?_
  simp only [Seg.c,Store.set_set,↓vcPre,↓z0,↓reduceIte,vcPost,vcStd,Nat.reduceEqDiff,reduceCtorEq,Nat.reduceAdd,Nat.reduceLeDiff,Int.reduceLT,Int.reduceLE,↓u_setN]
  refine (zei _ (by have:=ho _ (List.getElem_mem c1);unfold Seg.ok at this;omega)).q' ?_
  simp only [Store.set_set,↓vcPre,↓z0,↓reduceIte,vcPost,vcStd,Nat.reduceEqDiff,reduceCtorEq,Nat.reduceAdd,Nat.reduceLeDiff,Int.reduceLT,Int.reduceLE,↓u_setN]
  refine AllocQ.i1 fun j hj1 hj2 hj => ?_
  simp only [↓vcPre,↓z0,↓reduceIte,vcPost,vcStd,Nat.reduceEqDiff,reduceCtorEq,Nat.reduceAdd,Nat.reduceLeDiff,Int.reduceLT,Int.reduceLE,↓u_setN]
  refine Own.app (τ:=σ) (L:=(p.take k).map Seg.c) (Store.sub_trans hs (zk hi hj hj1)) (ho'.mono (zk hi hj hj1)) (zj (Store.set_same _ _ _) rfl) (by simp;omega) fun v' s' hs' ho'' => ?_
  rw [ek]
  refine NextQ.to (k+1,v',s') rfl (Store.sub_refl _) (by simp only;omega) ⟨by simp only;omega,hs',?_⟩
  simp only [List.take_add_one,List.getElem?_eq_getElem c1,Option.toList_some,List.map_append,List.map_cons,List.map_nil]
  exact ho''
 ·have hkl:p.take k=p:=List.take_of_length_le (by omega)
  rw [hkl] at ho'
  exact EndQ.own rfl ho' hs ⟨rfl,rfl⟩
end Go.Am
namespace Go.Am.Tsc
open Go.Proofs Go.Am.B
def t72_15:BC:=z [f 15 8 1,l 16 1 15,g 17 113 [.t 16],g 18 112 [.t 17],g 19 111 [.t 18],f 20 8 1,s 1 20 19] [1,2] (z [⟨some 21,none,.load (.ld 9 true),[.t 1]⟩,s 9 2 21] [2] .ret)
def b72:BC:=z [⟨some 1,none,.alloc (.box),[.t 0]⟩,⟨some 2,none,.alloc (.alloc [(.int .i64 0),.nils,(.int .u32 0),(.bool false),(.int .u32 0),(.bool false),(.int .u32 0),(.bool false),.nils]),[]⟩] [1,2] (z [f 3 1 1,l 4 1 3,g 5 110 [.t 4],f 6 1 1,s 1 6 5] [1,2] (.seq (z [f 7 3 1,l 8 1 7,u 9 .not 8] [1,2,9] (.cond (.t 9) (.ops [f 10 4 1,⟨none,none,.loud (.st 1),[.t 10,.c (.int .u32 0)]⟩] [1,2]) .skip)) (.seq (z [f 11 5 1,l 12 1 11,u 13 .not 12] [1,2,13] (.cond (.t 13) (.ops [f 14 6 1,⟨none,none,.loud (.st 1),[.t 14,.c (.int .u32 0)]⟩] [1,2]) .skip)) t72_15)))
def F72:Fn Tryz.prog 72:=Fn.mkX false b72 [.c 2 9 true] 22 Tryz.f72 _ Tryz.func72 (by decide) rfl Tryz.ntmps72 (by kernel_rfl) (by kernel_rfl)
end Go.Am.Tsc
namespace Go.Am
open Go.Proofs Go.Sort
def leI (a b:Int):Bool:=decide (a≤b)
def canonC (l:List Int):List Int:=ddA (l.mergeSort leI)
theorem qm {L zs:List Int} (hp:L.Perm zs) (hs:L.Pairwise (· ≤ ·)):L=zs.mergeSort leI:=by
 have h1:(zs.mergeSort leI).Pairwise (· ≤ ·):=by
  have:=List.pairwise_mergeSort (le:=leI) (fun a b c h1 h2=>by simp only [leI,decide_eq_true_eq] at *;omega) (fun a b=>by simp only [leI,Bool.or_eq_true,decide_eq_true_eq];omega) zs
  exact this.imp fun {a b} h=>by simpa [leI] using h
 refine List.Perm.eq_of_pairwise (le:=(· ≤ ·)) (fun a b _ _ h1 h2=>by omega) hs h1 (hp.trans (List.mergeSort_perm zs leI).symm)
theorem z4v {L zs:List Int} (hp:L.Perm zs) (hs:L.Pairwise (· ≤ ·)):ddA L=canonC zs:=by rw [canonC,←qm hp hs]
theorem z2y:∀ l:List Int,(ddA l).length≤l.length
 | []=>by simp [ddA]
 | [a]=>by simp [ddA]
 | a::b::r=>by
   have:=z2y (b::r)
   simp only [ddA]
   split <;> simp at * <;> omega
theorem w7 (l:List Int):(canonC l).length≤l.length:=by
 have:=z2y (l.mergeSort leI)
 rw [List.length_mergeSort] at this
 exact this
def canonA (a:At):At:={ a with med:=if a.hm then a.med else 0,prf:=if a.hp then a.prf else 0,cms:=canonC a.cms }
def At.cO (a:At) (v:AV):List AV:=[.int .i64 a.org,.sl 2 (a.path.map Seg.c),.int .u32 a.nxt,.bool a.hm,.int .u32 a.med,.bool a.hp,.int .u32 a.prf,.bool a.atm,v]
theorem zd2 (σ:Store):ACalls Tryz.prog 111 [.nils] σ (fun r s=>r = .nils∧s=σ):=by
 refine zf Tst.F111 (by simp [Tst.F111,Fn.mkX]) ?_
 simp only [Tst.F111,Fn.mkX,Tst.b111]
 simp only [↓vcPre,↓z0,↓reduceIte,vcPost,vcStd,Nat.reduceEqDiff,reduceCtorEq,Nat.reduceAdd,Nat.reduceLeDiff,Int.reduceLT,Int.reduceLE,↓u_setN]
 exact EndQ.to _ _ rfl (Store.sub_refl _) ⟨rfl,rfl⟩
theorem um {σ τ:Store} {g:Nat} {o:Obj} (h:Store.sub σ τ):Store.sub (σ.set g o) (τ.set g o):=fun i q hi=>by
 simp only [Store.set] at hi ⊢
 split at hi
 ·rename_i e;rw [if_pos e];exact hi
 ·rename_i e;rw [if_neg e];exact h i q hi
theorem z4e (a:At) (hc:a.cms.length≤1000000) {σ t:Store} {b r:Nat} {z:List AV} {n rr:Env→Store→Prop} {x:Nat→Env→Store→Prop} (hb:t b=some (.box a.c)) (hr:t r=some (.box z)) (hz:z.length=9) (hbr:¬ b=r) (hsub:Store.sub σ t) (hσb:σ b=none) (hσr:σ r=none)
 (h0:∀ s,canonC a.cms=[]→Store.sub σ s→s r=some (.box (({ a with cms:=[] }:At).cO .nils))→rr [(2,.ptr r 0)] s)
 (h1:∀ s g,∀ M:List Int,σ g=none→(canonC a.cms).length≤M.length→M.take (canonC a.cms).length=canonC a.cms→Store.sub (σ.set g (.arr 1 (M.map cU))) s→s r=some (.box (({ a with cms:=[] }:At).cO (.os g 1 0 (canonC a.cms).length)))→rr [(2,.ptr r 0)] s) :
 bwp Tryz.prog Tsc.t72_15 [(1,.ptr b 0),(2,.ptr r 0)] t n rr x:=by
 simp only [Tsc.t72_15]
 have hrb:¬ r=b:=fun e=>hbr e.symm
 simp only [hb,At.c,↓vcPre,↓z0,↓reduceIte,vcPost,vcStd,Nat.reduceEqDiff,reduceCtorEq,Nat.reduceAdd,Nat.reduceLeDiff,Int.reduceLT,Int.reduceLE,↓u_setN]
 refine (zex _ ⟨rfl,rfl⟩ t).Q ?_
 rintro f s ⟨i,hi,rfl,rfl⟩
 have hib:¬ b=i:=fun e=>by subst e;rw [hb] at hi;cases hi
 have hir:¬ r=i:=fun e=>by subst e;rw [hr] at hi;cases hi
 simp only [hib,hir,↓vcPre,↓z0,↓reduceIte,vcPost,vcStd,Nat.reduceEqDiff,reduceCtorEq,Nat.reduceAdd,Nat.reduceLeDiff,Int.reduceLT,Int.reduceLE,↓u_setN]
 refine (zew (Store.set_same _ _ _) (zs:=a.cms) (by simp [slc]) (by omega)).Q ?_
 rintro f s (⟨hz0,rfl,rfl⟩ | ⟨hz0,g,L,hg,hp,hl,rfl,rfl⟩)
 ·simp only [hib,hir,↓vcPre,↓z0,↓reduceIte,vcPost,vcStd,Nat.reduceEqDiff,reduceCtorEq,Nat.reduceAdd,Nat.reduceLeDiff,Int.reduceLT,Int.reduceLE,↓u_setN]
  refine (zd2 _).Q ?_
  rintro f s ⟨rfl,rfl⟩
  simp only [hib,hir,hb,hr,hbr,hrb,At.c,hz,↓vcPre,↓z0,↓reduceIte,vcPost,vcStd,Nat.reduceEqDiff,reduceCtorEq,Nat.reduceAdd,Nat.reduceLeDiff,Int.reduceLT,Int.reduceLE,↓u_setN]
  rw [zz _ _ (by simp [hz]),y7]
  refine h0 _ (by rw [hz0];simp [canonC,ddA]) (z6 (z6 (z6 hsub (zi hsub hi)) hσb) hσr) (Store.set_same _ _ _)
 ·have hgb:¬ b=g:=fun e=>by subst e;rw [Store.set_ne _ _ hib,hb] at hg;cases hg
  have hgr:¬ r=g:=fun e=>by subst e;rw [Store.set_ne _ _ hir,hr] at hg;cases hg
  simp only [hib,hir,↓vcPre,↓z0,↓reduceIte,vcPost,vcStd,Nat.reduceEqDiff,reduceCtorEq,Nat.reduceAdd,Nat.reduceLeDiff,Int.reduceLT,Int.reduceLE,↓u_setN]
  refine (zev (Store.set_same _ _ _) (by rw [hp.length_eq];omega)).Q ?_
  rintro f s ⟨M,m1,m2,m3,rfl,rfl⟩
  simp only [hib,hir,hb,hr,hbr,hrb,hgb,hgr,At.c,hz,↓vcPre,↓z0,↓reduceIte,vcPost,vcStd,Nat.reduceEqDiff,reduceCtorEq,Nat.reduceAdd,Nat.reduceLeDiff,Int.reduceLT,Int.reduceLE,↓u_setN]
  rw [zz _ _ (by simp [hz]),y7]
  have hcn:=z4v hp hl
  have hσi:=zi hsub hi
  have hσg:σ g=none:=by
   cases h:σ g with
   | none=>rfl
   | some o=>rw [z6 hsub hσi g o h] at hg;cases hg
  rw [hcn] at m2 m3 ⊢
  refine h1 _ g M hσg (by omega) m2 ?_ (Store.set_same _ _ _)
  rw [Store.set_set]
  exact z6 (z6 (um (z6 hsub hσi)) (by rw [Store.set_ne _ _ hgb];exact hσb)) (by rw [Store.set_ne _ _ hgr];exact hσr)
theorem s72 (a:At) (h:a.ok) (σ:Store):ACalls Tryz.prog 72 [.agg a.c] σ (fun r s=>(canonC a.cms=[]∧r = .agg ((canonA a).cO .nils)∧s=σ) ∨
 ∃ g,∃ M:List Int,σ g=none∧(canonC a.cms).length≤M.length∧M.take (canonC a.cms).length=canonC a.cms∧r = .agg ((canonA a).cO (.os g 1 0 (canonC a.cms).length))∧s=σ.set g (.arr 1 (M.map cU))):=by
 refine zf Tsc.F72 (by simp [Tsc.F72,Fn.mkX]) ?_
 simp only [Tsc.F72,Fn.mkX,Tsc.b72]
 simp only [At.c,↓vcPre,↓z0,↓reduceIte,vcPost,vcStd,Nat.reduceEqDiff,reduceCtorEq,Nat.reduceAdd,Nat.reduceLeDiff,Int.reduceLT,Int.reduceLE,↓u_setN]
 refine AllocQ.i0 fun b hb => ?_
 simp only [At.c,↓vcPre,↓z0,↓reduceIte,vcPost,vcStd,Nat.reduceEqDiff,reduceCtorEq,Nat.reduceAdd,Nat.reduceLeDiff,Int.reduceLT,Int.reduceLE,↓u_setN]
 refine AllocQ.i1 fun r hr1 hr2 hr => ?_
 simp only [hr1,hr2,↓vcPre,↓z0,↓reduceIte,vcPost,vcStd,Nat.reduceEqDiff,reduceCtorEq,Nat.reduceAdd,Nat.reduceLeDiff,Int.reduceLT,Int.reduceLE,↓u_setN]
 refine (zee a.path h.1 h.2.1).Q ?_
 have hsb:∀ X Y Z:Obj,Store.sub σ (((σ.set b X).set r Y).set b Z):=fun X Y Z=>z6 (zk hb hr hr1) hb
 cases hm:a.hm <;> cases hp:a.hp
 all_goals
  simp only [hr1,hr2,Store.set_set,hm,hp,↓vcPre,↓z0,↓reduceIte,vcPost,vcStd,Nat.reduceEqDiff,reduceCtorEq,Nat.reduceAdd,Nat.reduceLeDiff,Int.reduceLT,Int.reduceLE,↓u_setN]
  refine z4e { a with med:=if a.hm then a.med else 0,prf:=if a.hp then a.prf else 0 } h.2.2 (by simp [At.c,hm,hp]) (by rw [Store.set_ne _ _ hr1,Store.set_same]) rfl hr2 (hsb _ _ _) hb hr ?_ ?_
  ·intro s hcz hss hsr
   refine EndQ.to σ (.agg ((canonA a).cO .nils)) ?_ hss (.inl ⟨hcz,rfl,rfl⟩)
   show Env.res [(2,AV.ptr r 0)] s [RS.c 2 9 true]=_
   simp only [hsr,At.cO,canonA,hm,hp,↓vcPre,↓z0,↓reduceIte,vcPost,vcStd,Nat.reduceEqDiff,reduceCtorEq,Nat.reduceAdd,Nat.reduceLeDiff,Int.reduceLT,Int.reduceLE,↓u_setN]
  ·intro s g M m1 m2 m3 m4 hsr
   refine EndQ.to (σ.set g (.arr 1 (M.map cU))) (.agg ((canonA a).cO (.os g 1 0 (canonC a.cms).length))) ?_ m4 (.inr ⟨g,M,m1,m2,m3,rfl,rfl⟩)
   show Env.res [(2,AV.ptr r 0)] s [RS.c 2 9 true]=_
   simp only [hsr,At.cO,canonA,hm,hp,↓vcPre,↓z0,↓reduceIte,vcPost,vcStd,Nat.reduceEqDiff,reduceCtorEq,Nat.reduceAdd,Nat.reduceLeDiff,Int.reduceLT,Int.reduceLE,↓u_setN]
theorem c72 (a:At) (h:a.ok):Pur Tryz.prog 72 [.agg a.c] (.agg (canonA a).c):=by
 intro σ
 refine (s72 a h σ).weakRes ?_
 rintro r s (⟨hz,rfl,rfl⟩ | ⟨g,M,m1,m2,m3,rfl,rfl⟩)
 ·refine Weak.agg (WeakL.nil 8 1 rfl (WeakL.pure ⟨?_,rfl,?_⟩))
  ·intro c hc
   simp [At.cO] at hc
   rcases hc with rfl | rfl | rfl | rfl | rfl | rfl | rfl | rfl | rfl <;> rfl
  ·simp [At.cO,At.c,canonA,hz]
 ·refine Weak.agg (WeakL.freeze 8 rfl (Store.set_same _ _ _) (by simpa using m2) (WeakL.forget (fun i o hi => ?_) (WeakL.pure ⟨?_,rfl,?_⟩)))
  ·have:i≠g:=fun e=>by subst e;rw [m1] at hi;cases hi
   rw [Store.del_ne _ this,Store.set_ne _ _ this];exact hi
  ·intro c hc
   simp [At.cO] at hc
   rcases hc with rfl | rfl | rfl | rfl | rfl | rfl | rfl | rfl | rfl <;> rfl
  ·simp only [At.cO,At.c,canonA,List.set_cons_succ,List.set_cons_zero,List.drop_zero,←List.map_take,m3]
end Go.Am
namespace Go.Am
open Go.Proofs Go.Sort
theorem zag (x:Int):Pur Tryz.prog 148 [.int .i64 x] (.bool false):=by
 refine zl Tst.F148 (by simp [Tst.F148,Fn.mkX]) fun σ => ?_
 simp only [Tst.F148,Fn.mkX,Tst.b148]
 simp only [↓vcPre,↓z0,↓reduceIte,vcPost,vcStd,Nat.reduceEqDiff,reduceCtorEq,Nat.reduceAdd,Nat.reduceLeDiff,Int.reduceLT,Int.reduceLE,↓u_setN]
theorem z6d (x y:Int):Pur Tryz.prog 115 [.int .i64 x,.int .i64 y] (.int .i64 (cmpI x y)):=by
 refine zl Tst.F115 (by simp [Tst.F115,Fn.mkX]) fun σ => ?_
 simp only [Tst.F115,Fn.mkX,Tst.b115]
 simp only [↓vcPre,↓z0,↓reduceIte,vcPost,vcStd,Nat.reduceEqDiff,reduceCtorEq,Nat.reduceAdd,Nat.reduceLeDiff,Int.reduceLT,Int.reduceLE,↓u_setN]
 refine (zag x).Q ?_
 simp only [↓vcPre,↓z0,↓reduceIte,vcPost,vcStd,Nat.reduceEqDiff,reduceCtorEq,Nat.reduceAdd,Nat.reduceLeDiff,Int.reduceLT,Int.reduceLE,↓u_setN]
 refine (zag y).Q ?_
 simp only [↓vcPre,↓z0,↓reduceIte,vcPost,vcStd,Nat.reduceEqDiff,reduceCtorEq,Nat.reduceAdd,Nat.reduceLeDiff,Int.reduceLT,Int.reduceLE,↓u_setN]
 refine ⟨fun h1=>by simp [cmpI,h1],fun h1=>⟨fun h2=>by simp [cmpI,h1,h2],fun h2=>by simp [cmpI,h1,h2]⟩⟩
theorem z3n (x y:Int):Pur Tryz.prog 117 [.int .u32 x,.int .u32 y] (.int .i64 (cmpI x y)):=by
 refine zl Tst.F117 (by simp [Tst.F117,Fn.mkX]) fun σ => ?_
 simp only [Tst.F117,Fn.mkX,Tst.b117]
 simp only [↓vcPre,↓z0,↓reduceIte,vcPost,vcStd,Nat.reduceEqDiff,reduceCtorEq,Nat.reduceAdd,Nat.reduceLeDiff,Int.reduceLT,Int.reduceLE,↓u_setN]
 refine (z6e x).Q ?_
 simp only [↓vcPre,↓z0,↓reduceIte,vcPost,vcStd,Nat.reduceEqDiff,reduceCtorEq,Nat.reduceAdd,Nat.reduceLeDiff,Int.reduceLT,Int.reduceLE,↓u_setN]
 refine (z6e y).Q ?_
 simp only [↓vcPre,↓z0,↓reduceIte,vcPost,vcStd,Nat.reduceEqDiff,reduceCtorEq,Nat.reduceAdd,Nat.reduceLeDiff,Int.reduceLT,Int.reduceLE,↓u_setN]
 refine ⟨fun h1=>by simp [cmpI,h1],fun h1=>⟨fun h2=>by simp [cmpI,h1,h2],fun h2=>by simp [cmpI,h1,h2]⟩⟩
def truthF (b:Bool):Int:=if b then 1 else 0
theorem z04 (b:Bool):Pur Tryz.prog 118 [.bool b] (.int .i64 (truthF b)):=by
 refine zl Tst.F118 (by simp [Tst.F118,Fn.mkX]) fun σ => ?_
 simp only [Tst.F118,Fn.mkX,Tst.b118]
 cases b <;> simp only [↓vcPre,↓z0,↓reduceIte,vcPost,vcStd,Nat.reduceEqDiff,reduceCtorEq,Nat.reduceAdd,Nat.reduceLeDiff,Int.reduceLT,Int.reduceLE,↓u_setN] <;> rfl
def orL:List Int→Int
 | []=>0
 | x::r=>if x=0 then orL r else x
def cI (x:Int):List AV:=[.int .i64 x]
theorem zav (xs:List Int) (hx:xs.length<1000) {σ:Store} {i:Nat} (hi:σ i=some (.arr 1 (xs.map cI))):ACalls Tryz.prog 114 [.os i 1 0 xs.length] σ (fun r s=>s=σ∧r = .int .i64 (orL xs)):=by
 refine zf Tst.F114 (by simp [Tst.F114,Fn.mkX]) ?_
 simp only [Tst.F114,Fn.mkX,Tst.b114]
 simp only [hi,↓vcPre,↓z0,↓reduceIte,vcPost,vcStd,Nat.reduceEqDiff,reduceCtorEq,Nat.reduceAdd,Nat.reduceLeDiff,Int.reduceLT,Int.reduceLE,↓u_setN]
 refine LoopQ.inv (S:=Nat) (fun k=>[(3,.int .i64 0),(6,.os i 1 0 xs.length),(7,.int .i64 (xs.length:Int)),(8,.int .i64 (k:Int))]) (fun _=>σ) (fun k=>k≤xs.length∧orL (xs.drop k)=orL xs) (fun k=>xs.length+1 - k) 0 rfl (Store.sub_refl _) ⟨by omega,rfl⟩ ?_
 rintro k ⟨hk,ho⟩
 simp only [hi,↓vcPre,↓z0,↓reduceIte,vcPost,vcStd,Nat.reduceEqDiff,reduceCtorEq,Nat.reduceAdd,Nat.reduceLeDiff,Int.reduceLT,Int.reduceLE,↓u_setN]
 refine ⟨fun c1 => ?_,fun c1 => ?_⟩
 ·have ek:IntKind.i64.wrap ((k:Int)+1)=((k+1:Nat):Int):=by rw [za (by unfold I64;omega)];omega
  rw [List.drop_eq_getElem_cons c1] at ho
  simp only [orL] at ho
  simp only [Nat.zero_add]
  refine ⟨c1,c1,by simp [cI],?_⟩
  simp only [cI,Nat.zero_add,↓vcPre,↓z0,↓reduceIte,vcPost,vcStd,Nat.reduceEqDiff,reduceCtorEq,Nat.reduceAdd,Nat.reduceLeDiff,Int.reduceLT,Int.reduceLE,↓u_setN]
  refine ⟨fun g1 => ?_,fun g1 => ?_⟩
  ·rw [if_neg g1] at ho
   exact EndQ.to _ _ rfl (Store.sub_refl _) ⟨rfl,by rw [ho]⟩
  ·rw [if_pos g1] at ho
   rw [ek]
   exact NextQ.to (k+1) rfl (Store.sub_refl _) (by omega) ⟨by omega,ho⟩
 ·rw [List.drop_eq_nil_of_le (by omega)] at ho
  exact EndQ.to _ _ rfl (Store.sub_refl _) ⟨rfl,by rw [←ho];rfl⟩
def cmpG {α:Type} (f:α→α→Int):List α→List α→Int
 | [],[]=>0
 | [],_::_ => -1
 | _::_,[]=>1
 | a::r,b::s=>if f a b=0 then cmpG f r s else f a b
theorem zaf (l m:List Int) (hl:l.length≤1000000) (hm:m.length≤1000000):Pur Tryz.prog 119 [.sl 1 (l.map cU),.sl 1 (m.map cU)] (.int .i64 (cmpG cmpI l m)):=by
 refine zl Tst.F119 (by simp [Tst.F119,Fn.mkX]) fun σ => ?_
 simp only [Tst.F119,Fn.mkX,Tst.b119]
 simp only [↓vcPre,↓z0,↓reduceIte,vcPost,vcStd,Nat.reduceEqDiff,reduceCtorEq,Nat.reduceAdd,Nat.reduceLeDiff,Int.reduceLT,Int.reduceLE,↓u_setN]
 refine LoopQ.inv (S:=Nat) (fun k=>[(0,.sl 1 (l.map cU)),(1,.sl 1 (m.map cU)),(9,.sl 1 (l.map cU)),(10,.int .i64 (l.length:Int)),(11,.int .i64 (k:Int))]) (fun _=>σ) (fun k=>k≤l.length∧k≤m.length∧cmpG cmpI (l.drop k) (m.drop k)=cmpG cmpI l m) (fun k=>l.length+1 - k) 0 rfl (Store.sub_refl _) ⟨by omega,by omega,rfl⟩ ?_
 rintro k ⟨hk,hk2,ho⟩
 simp only [↓vcPre,↓z0,↓reduceIte,vcPost,vcStd,Nat.reduceEqDiff,reduceCtorEq,Nat.reduceAdd,Nat.reduceLeDiff,Int.reduceLT,Int.reduceLE,↓u_setN]
 refine ⟨fun c1 => ?_,fun c1 => ?_⟩
 ·have ek:IntKind.i64.wrap ((k:Int)+1)=((k+1:Nat):Int):=by rw [za (by unfold I64;omega)];omega
  rw [List.drop_eq_getElem_cons c1] at ho
  refine ⟨c1,by simp [cU],?_⟩
  simp only [cU,↓vcPre,↓z0,↓reduceIte,vcPost,vcStd,Nat.reduceEqDiff,reduceCtorEq,Nat.reduceAdd,Nat.reduceLeDiff,Int.reduceLT,Int.reduceLE,↓u_setN]
  refine ⟨fun g1 => ?_,fun g1 => ?_⟩
  ·rw [show List.drop k m=[] from List.drop_eq_nil_of_le (by omega)] at ho
   rw [←ho];rfl
  ·rw [List.drop_eq_getElem_cons (l:=m) (by omega)] at ho
   simp only [cmpG] at ho
   refine ⟨by omega,?_⟩
   refine (z3n _ _).Q ?_
   simp only [↓vcPre,↓z0,↓reduceIte,vcPost,vcStd,Nat.reduceEqDiff,reduceCtorEq,Nat.reduceAdd,Nat.reduceLeDiff,Int.reduceLT,Int.reduceLE,↓u_setN]
   refine ⟨fun g2 => ?_,fun g2 => ?_⟩
   ·rw [if_neg g2] at ho
    rw [ho]
   ·rw [if_pos g2] at ho
    rw [ek]
    exact NextQ.to (k+1) rfl (Store.sub_refl _) (by omega) ⟨by omega,by omega,ho⟩
 ·rw [show List.drop k l=[] from List.drop_eq_nil_of_le (by omega)] at ho
  refine ⟨fun g1 => ?_,fun g1 => ?_⟩
  ·rw [List.drop_eq_getElem_cons (l:=m) (by omega)] at ho
   rw [←ho];rfl
  ·rw [show List.drop k m=[] from List.drop_eq_nil_of_le (by omega)] at ho
   rw [←ho];rfl
theorem zbg {k:IntKind} {a b c:Int}:alv (.mksl 1 3) [.int k a,.int k b,.int k c]=some (.arr 1 [[.int k a],[.int k b],[.int k c]],fun id => .os id 1 0 3):=by rfl
theorem zbh {k:IntKind} {a b c d e f g h i:Int}:alv (.mksl 1 9) [.int k a,.int k b,.int k c,.int k d,.int k e,.int k f,.int k g,.int k h,.int k i]=some (.arr 1 [[.int k a],[.int k b],[.int k c],[.int k d],[.int k e],[.int k f],[.int k g],[.int k h],[.int k i]],fun id => .os id 1 0 9):=by rfl
def cmpSeg (a b:Seg):Int:=orL [cmpI a.kind b.kind,cmpI a.ls.length b.ls.length,cmpG cmpI a.ls b.ls]
theorem zej (a b:Seg) (ha:a.ok) (hb:b.ok):Pur Tryz.prog 150 [.agg a.c,.agg b.c] (.int .i64 (cmpSeg a b)):=by
 refine zl Tst.F150 (by simp [Tst.F150,Fn.mkX]) fun σ => ?_
 simp only [Tst.F150,Fn.mkX,Tst.b150,Seg.c]
 simp only [↓vcPre,↓z0,↓reduceIte,vcPost,vcStd,Nat.reduceEqDiff,reduceCtorEq,Nat.reduceAdd,Nat.reduceLeDiff,Int.reduceLT,Int.reduceLE,↓u_setN]
 refine AllocQ.i0 fun i hi => ?_
 simp only [↓vcPre,↓z0,↓reduceIte,vcPost,vcStd,Nat.reduceEqDiff,reduceCtorEq,Nat.reduceAdd,Nat.reduceLeDiff,Int.reduceLT,Int.reduceLE,↓u_setN]
 refine AllocQ.i1 fun j hj1 hj2 hj => ?_
 simp only [*,↓vcPre,↓z0,↓reduceIte,vcPost,vcStd,Nat.reduceEqDiff,reduceCtorEq,Nat.reduceAdd,Nat.reduceLeDiff,Int.reduceLT,Int.reduceLE,↓u_setN]
 have hz:∀ n:Nat,n≤1000000→IntKind.i64.wrap (n:Int)=n:=fun n hn=>za (by unfold I64;omega)
 refine (z6d _ _).Q ?_
 simp only [*,↓vcPre,↓z0,↓reduceIte,vcPost,vcStd,Nat.reduceEqDiff,reduceCtorEq,Nat.reduceAdd,Nat.reduceLeDiff,Int.reduceLT,Int.reduceLE,↓u_setN]
 refine (z6d _ _).Q ?_
 simp only [*,↓vcPre,↓z0,↓reduceIte,vcPost,vcStd,Nat.reduceEqDiff,reduceCtorEq,Nat.reduceAdd,Nat.reduceLeDiff,Int.reduceLT,Int.reduceLE,↓u_setN]
 refine (zaf _ _ ha hb).Q ?_
 simp only [zbg,↓vcPre,↓z0,↓reduceIte,vcPost,vcStd,Nat.reduceEqDiff,reduceCtorEq,Nat.reduceAdd,Nat.reduceLeDiff,Int.reduceLT,Int.reduceLE,↓u_setN]
 refine AllocQ.i2 fun g hg1 hg2 hg3 hg4 hg => ?_
 simp only [↓vcPre,↓z0,↓reduceIte,vcPost,vcStd,Nat.reduceEqDiff,reduceCtorEq,Nat.reduceAdd,Nat.reduceLeDiff,Int.reduceLT,Int.reduceLE,↓u_setN]
 refine (zav [cmpI a.kind b.kind,cmpI a.ls.length b.ls.length,cmpG cmpI a.ls b.ls] (by simp) (Store.set_same _ _ _)).Q ?_
 rintro r s ⟨h1,rfl⟩
 subst h1
 refine ⟨Store.sub_refl _,?_⟩
 simp only [↓vcPre,↓z0,↓reduceIte,vcPost,vcStd,Nat.reduceEqDiff,reduceCtorEq,Nat.reduceAdd,Nat.reduceLeDiff,Int.reduceLT,Int.reduceLE,↓u_setN]
 exact ⟨rfl,z6 (zk hi hj hj1) hg⟩
def cmpPath (a b:List Seg):Int:=cmpG cmpSeg a b
theorem zey (l m:List Seg) (hl:l.length≤1000000) (hm:m.length≤1000000) (hlo:∀ s ∈ l,s.ok) (hmo:∀ s ∈ m,s.ok):Pur Tryz.prog 149 [.sl 2 (l.map Seg.c),.sl 2 (m.map Seg.c),.fn 150 []] (.int .i64 (cmpPath l m)):=by
 refine zl Tst.F149 (by simp [Tst.F149,Fn.mkX]) fun σ => ?_
 simp only [Tst.F149,Fn.mkX,Tst.b149]
 simp only [↓vcPre,↓z0,↓reduceIte,vcPost,vcStd,Nat.reduceEqDiff,reduceCtorEq,Nat.reduceAdd,Nat.reduceLeDiff,Int.reduceLT,Int.reduceLE,↓u_setN]
 refine LoopQ.inv (S:=Nat) (fun k=>[(0,.sl 2 (l.map Seg.c)),(1,.sl 2 (m.map Seg.c)),(2,.fn 150 []),(11,.sl 2 (l.map Seg.c)),(12,.int .i64 (l.length:Int)),(13,.int .i64 (k:Int))]) (fun _=>σ) (fun k=>k≤l.length∧k≤m.length∧cmpG cmpSeg (l.drop k) (m.drop k)=cmpG cmpSeg l m) (fun k=>l.length+1 - k) 0 rfl (Store.sub_refl _) ⟨by omega,by omega,rfl⟩ ?_
 rintro k ⟨hk,hk2,ho⟩
 simp only [↓vcPre,↓z0,↓reduceIte,vcPost,vcStd,Nat.reduceEqDiff,reduceCtorEq,Nat.reduceAdd,Nat.reduceLeDiff,Int.reduceLT,Int.reduceLE,↓u_setN]
 refine ⟨fun c1 => ?_,fun c1 => ?_⟩
 ·have ek:IntKind.i64.wrap ((k:Int)+1)=((k+1:Nat):Int):=by rw [za (by unfold I64;omega)];omega
  rw [List.drop_eq_getElem_cons c1] at ho
  refine ⟨c1,by simp [Seg.c],?_⟩
  refine AllocQ.i0 fun i hi => ?_
  simp only [Seg.c,↓vcPre,↓z0,↓reduceIte,vcPost,vcStd,Nat.reduceEqDiff,reduceCtorEq,Nat.reduceAdd,Nat.reduceLeDiff,Int.reduceLT,Int.reduceLE,↓u_setN]
  refine ⟨fun g1 => ?_,fun g1 => ?_⟩
  ·rw [show List.drop k m=[] from List.drop_eq_nil_of_le (by omega)] at ho
   exact ⟨by rw [cmpPath,←ho];rfl,by rw [Store.set_set];exact Store.sub_set _ _ _ hi⟩
  ·rw [List.drop_eq_getElem_cons (l:=m) (by omega)] at ho
   simp only [cmpG] at ho
   rw [Store.set_set]
   refine ⟨by omega,?_⟩
   refine AllocQ.i1 fun j hj1 hj2 hj => ?_
   simp only [Seg.c,Store.set_set,hj1,hj2,↓vcPre,↓z0,↓reduceIte,vcPost,vcStd,Nat.reduceEqDiff,reduceCtorEq,Nat.reduceAdd,Nat.reduceLeDiff,Int.reduceLT,Int.reduceLE,↓u_setN]
   refine (zej _ _ (hlo _ (List.getElem_mem c1)) (hmo _ (List.getElem_mem (by omega)))).Q ?_
   simp only [↓vcPre,↓z0,↓reduceIte,vcPost,vcStd,Nat.reduceEqDiff,reduceCtorEq,Nat.reduceAdd,Nat.reduceLeDiff,Int.reduceLT,Int.reduceLE,↓u_setN]
   refine ⟨fun g2 => ?_,fun g2 => ?_⟩
   ·rw [if_neg g2] at ho
    exact ⟨by rw [cmpPath,←ho],zk hi hj hj1⟩
   ·rw [if_pos g2] at ho
    rw [ek]
    exact NextQ.to (k+1) rfl (zk hi hj hj1) (by omega) ⟨by omega,by omega,ho⟩
 ·rw [show List.drop k l=[] from List.drop_eq_nil_of_le (by omega)] at ho
  refine ⟨fun g1 => ?_,fun g1 => ?_⟩
  ·rw [List.drop_eq_getElem_cons (l:=m) (by omega)] at ho
   rw [cmpPath,←ho];rfl
  ·rw [show List.drop k m=[] from List.drop_eq_nil_of_le (by omega)] at ho
   rw [cmpPath,←ho];rfl
theorem zef (l m:List Seg) (hl:l.length≤1000000) (hm:m.length≤1000000) (hlo:∀ s ∈ l,s.ok) (hmo:∀ s ∈ m,s.ok):Pur Tryz.prog 116 [.sl 2 (l.map Seg.c),.sl 2 (m.map Seg.c)] (.int .i64 (cmpPath l m)):=by
 refine zl Tst.F116 (by simp [Tst.F116,Fn.mkX]) fun σ => ?_
 simp only [Tst.F116,Fn.mkX,Tst.b116]
 simp only [↓vcPre,↓z0,↓reduceIte,vcPost,vcStd,Nat.reduceEqDiff,reduceCtorEq,Nat.reduceAdd,Nat.reduceLeDiff,Int.reduceLT,Int.reduceLE,↓u_setN]
 refine (zey l m hl hm hlo hmo).Q ?_
 simp only [↓vcPre,↓z0,↓reduceIte,vcPost,vcStd,Nat.reduceEqDiff,reduceCtorEq,Nat.reduceAdd,Nat.reduceLeDiff,Int.reduceLT,Int.reduceLE,↓u_setN]
def cmpAs (a b:At):Int:=orL [cmpI a.org b.org,cmpPath a.path b.path,cmpI a.nxt b.nxt,IntKind.i64.wrap (truthF a.hm - truthF b.hm),cmpI a.med b.med,IntKind.i64.wrap (truthF a.hp - truthF b.hp),cmpI a.prf b.prf,IntKind.i64.wrap (truthF a.atm - truthF b.atm),cmpG cmpI a.cms b.cms]
theorem wm {a:At} (h:a.ok):(canonA a).ok:=⟨h.1,h.2.1,Nat.le_trans (w7 _) h.2.2⟩
set_option maxRecDepth 20000 in
theorem c73 (a b:At) (ha:a.ok) (hb:b.ok):Pur Tryz.prog 73 [.agg a.c,.agg b.c] (.int .i64 (cmpAs (canonA a) (canonA b))):=by
 refine zl Tst.F73 (by simp [Tst.F73,Fn.mkX]) fun σ => ?_
 simp only [Tst.F73,Fn.mkX,Tst.b73]
 simp only [↓vcPre,↓z0,↓reduceIte,vcPost,vcStd,Nat.reduceEqDiff,reduceCtorEq,Nat.reduceAdd,Nat.reduceLeDiff,Int.reduceLT,Int.reduceLE,↓u_setN]
 have e9:∀ x:At,x.c.length=9:=fun _=>rfl
 have t9:∀ x:At,List.take 9 x.c=x.c:=fun _=>rfl
 have p9:∀ x y:At,splice 0 x.c y.c=some x.c:=fun x y=>zz _ _ rfl
 refine AllocQ.i0 fun i hi => ?_
 simp only [↓vcPre,↓z0,↓reduceIte,vcPost,vcStd,Nat.reduceEqDiff,reduceCtorEq,Nat.reduceAdd,Nat.reduceLeDiff,Int.reduceLT,Int.reduceLE,↓u_setN]
 refine AllocQ.i1 fun j hj1 hj2 hj => ?_
 simp only [hj1,hj2,e9,t9,p9,Nat.le_refl,↓vcPre,↓z0,↓reduceIte,vcPost,vcStd,Nat.reduceEqDiff,reduceCtorEq,Nat.reduceAdd,Nat.reduceLeDiff,Int.reduceLT,Int.reduceLE,↓u_setN]
 refine (c72 a ha).Q ?_
 simp only [hj1,hj2,e9,t9,p9,Nat.le_refl,↓vcPre,↓z0,↓reduceIte,vcPost,vcStd,Nat.reduceEqDiff,reduceCtorEq,Nat.reduceAdd,Nat.reduceLeDiff,Int.reduceLT,Int.reduceLE,↓u_setN]
 refine (c72 b hb).Q ?_
 simp only [hj1,hj2,e9,t9,p9,Nat.le_refl,Store.set_set,↓vcPre,↓z0,↓reduceIte,vcPost,vcStd,Nat.reduceEqDiff,reduceCtorEq,Nat.reduceAdd,Nat.reduceLeDiff,Int.reduceLT,Int.reduceLE,↓u_setN]
 have hsub:Store.sub σ ((((σ.set i (Obj.box a.c)).set j (Obj.box b.c)).set i (Obj.box (canonA a).c)).set j (Obj.box (canonA b).c)):=z6 (z6 (zk hi hj hj1) hi) hj
 generalize ((((σ.set i (Obj.box a.c)).set j (Obj.box b.c)).set i (Obj.box (canonA a).c)).set j (Obj.box (canonA b).c))=T at hsub ⊢
 have ha1:=wm ha
 have hb1:=wm hb
 generalize canonA a=a1 at ha1 ⊢
 generalize canonA b=b1 at hb1 ⊢
 clear e9 t9 p9
 simp only [At.c,↓vcPre,↓z0,↓reduceIte,vcPost,vcStd,Nat.reduceEqDiff,reduceCtorEq,Nat.reduceAdd,Nat.reduceLeDiff,Int.reduceLT,Int.reduceLE,↓u_setN]
 refine (z6d _ _).Q ?_
 simp only [↓vcPre,↓z0,↓reduceIte,vcPost,vcStd,Nat.reduceEqDiff,reduceCtorEq,Nat.reduceAdd,Nat.reduceLeDiff,Int.reduceLT,Int.reduceLE,↓u_setN]
 refine (zef _ _ ha1.1 hb1.1 ha1.2.1 hb1.2.1).Q ?_
 simp only [↓vcPre,↓z0,↓reduceIte,vcPost,vcStd,Nat.reduceEqDiff,reduceCtorEq,Nat.reduceAdd,Nat.reduceLeDiff,Int.reduceLT,Int.reduceLE,↓u_setN]
 refine (z3n _ _).Q ?_
 simp only [↓vcPre,↓z0,↓reduceIte,vcPost,vcStd,Nat.reduceEqDiff,reduceCtorEq,Nat.reduceAdd,Nat.reduceLeDiff,Int.reduceLT,Int.reduceLE,↓u_setN]
 refine (z04 _).Q ?_
 simp only [↓vcPre,↓z0,↓reduceIte,vcPost,vcStd,Nat.reduceEqDiff,reduceCtorEq,Nat.reduceAdd,Nat.reduceLeDiff,Int.reduceLT,Int.reduceLE,↓u_setN]
 refine (z04 _).Q ?_
 simp only [↓vcPre,↓z0,↓reduceIte,vcPost,vcStd,Nat.reduceEqDiff,reduceCtorEq,Nat.reduceAdd,Nat.reduceLeDiff,Int.reduceLT,Int.reduceLE,↓u_setN]
 refine (z3n _ _).Q ?_
 simp only [↓vcPre,↓z0,↓reduceIte,vcPost,vcStd,Nat.reduceEqDiff,reduceCtorEq,Nat.reduceAdd,Nat.reduceLeDiff,Int.reduceLT,Int.reduceLE,↓u_setN]
 refine (z04 _).Q ?_
 simp only [↓vcPre,↓z0,↓reduceIte,vcPost,vcStd,Nat.reduceEqDiff,reduceCtorEq,Nat.reduceAdd,Nat.reduceLeDiff,Int.reduceLT,Int.reduceLE,↓u_setN]
 refine (z04 _).Q ?_
 simp only [↓vcPre,↓z0,↓reduceIte,vcPost,vcStd,Nat.reduceEqDiff,reduceCtorEq,Nat.reduceAdd,Nat.reduceLeDiff,Int.reduceLT,Int.reduceLE,↓u_setN]
 refine (z3n _ _).Q ?_
 simp only [↓vcPre,↓z0,↓reduceIte,vcPost,vcStd,Nat.reduceEqDiff,reduceCtorEq,Nat.reduceAdd,Nat.reduceLeDiff,Int.reduceLT,Int.reduceLE,↓u_setN]
 refine (z04 _).Q ?_
 simp only [↓vcPre,↓z0,↓reduceIte,vcPost,vcStd,Nat.reduceEqDiff,reduceCtorEq,Nat.reduceAdd,Nat.reduceLeDiff,Int.reduceLT,Int.reduceLE,↓u_setN]
 refine (z04 _).Q ?_
 simp only [↓vcPre,↓z0,↓reduceIte,vcPost,vcStd,Nat.reduceEqDiff,reduceCtorEq,Nat.reduceAdd,Nat.reduceLeDiff,Int.reduceLT,Int.reduceLE,↓u_setN]
 refine (zaf _ _ ha1.2.2 hb1.2.2).Q ?_
 simp only [zbh,↓vcPre,↓z0,↓reduceIte,vcPost,vcStd,Nat.reduceEqDiff,reduceCtorEq,Nat.reduceAdd,Nat.reduceLeDiff,Int.reduceLT,Int.reduceLE,↓u_setN]
 refine AllocQ.i0 fun g hg => ?_
 simp only [↓vcPre,↓z0,↓reduceIte,vcPost,vcStd,Nat.reduceEqDiff,reduceCtorEq,Nat.reduceAdd,Nat.reduceLeDiff,Int.reduceLT,Int.reduceLE,↓u_setN]
 refine (zav [cmpI a1.org b1.org,cmpPath a1.path b1.path,cmpI a1.nxt b1.nxt,IntKind.i64.wrap (truthF a1.hm - truthF b1.hm),cmpI a1.med b1.med,IntKind.i64.wrap (truthF a1.hp - truthF b1.hp),cmpI a1.prf b1.prf,IntKind.i64.wrap (truthF a1.atm - truthF b1.atm),cmpG cmpI a1.cms b1.cms] (by simp) (Store.set_same _ _ _)).Q ?_
 rintro r s ⟨h1,rfl⟩
 subst h1
 refine ⟨Store.sub_refl _,?_⟩
 simp only [↓vcPre,↓z0,↓reduceIte,vcPost,vcStd,Nat.reduceEqDiff,reduceCtorEq,Nat.reduceAdd,Nat.reduceLeDiff,Int.reduceLT,Int.reduceLE,↓u_setN]
 exact ⟨rfl,z6 hsub (zi hsub hg)⟩
theorem c29 (a b:At) (ha:a.ok) (hb:b.ok):Pur Tryz.prog 29 [.agg a.c,.agg b.c] (.bool (decide (cmpAs (canonA a) (canonA b)=0))):=by
 refine zl Tst.F29 (by simp [Tst.F29,Fn.mkX]) fun σ => ?_
 simp only [Tst.F29,Fn.mkX,Tst.b29]
 simp only [↓vcPre,↓z0,↓reduceIte,vcPost,vcStd,Nat.reduceEqDiff,reduceCtorEq,Nat.reduceAdd,Nat.reduceLeDiff,Int.reduceLT,Int.reduceLE,↓u_setN]
 have t9:∀ x:At,List.take 9 x.c=x.c:=fun _=>rfl
 have e9:∀ x:At,x.c.length=9:=fun _=>rfl
 refine AllocQ.i0 fun i hi => ?_
 simp only [↓vcPre,↓z0,↓reduceIte,vcPost,vcStd,Nat.reduceEqDiff,reduceCtorEq,Nat.reduceAdd,Nat.reduceLeDiff,Int.reduceLT,Int.reduceLE,↓u_setN]
 refine AllocQ.i1 fun j hj1 hj2 hj => ?_
 simp only [hj1,hj2,e9,t9,Nat.le_refl,↓vcPre,↓z0,↓reduceIte,vcPost,vcStd,Nat.reduceEqDiff,reduceCtorEq,Nat.reduceAdd,Nat.reduceLeDiff,Int.reduceLT,Int.reduceLE,↓u_setN]
 refine (c73 a b ha hb).Q ?_
 simp only [↓vcPre,↓z0,↓reduceIte,vcPost,vcStd,Nat.reduceEqDiff,reduceCtorEq,Nat.reduceAdd,Nat.reduceLeDiff,Int.reduceLT,Int.reduceLE,↓u_setN]
 exact zk hi hj hj1
end Go.Am
namespace Go.Am
open Go.Proofs Go.Sort
theorem cmpI_z {x y:Int}:cmpI x y=0↔x=y:=zq x y
theorem qo {α:Type} {f:α→α→Int}:∀ (l m:List α),(∀ a ∈ l,∀ b ∈ m,f a b=0↔a=b)→(cmpG f l m=0↔l=m)
 | [],[],_=>by simp [cmpG]
 | [],_::_,_=>by simp [cmpG]
 | _::_,[],_=>by simp [cmpG]
 | a::r,b::s,h=>by
   have h1:=h a (by simp) b (by simp)
   have h2:=qo r s (fun x hx y hy=>h x (by simp [hx]) y (by simp [hy]))
   simp only [cmpG]
   split
   ·rename_i h0
    rw [h2,h1.1 h0];simp
   ·rename_i h0
    constructor
    ·intro h3;exact absurd h3 h0
    ·intro h3;exact absurd (h1.2 (List.cons.inj h3).1) h0
theorem z45:∀ (l:List Int),orL l=0↔∀ x ∈ l,x=0
 | []=>by simp [orL]
 | x::r=>by
   have:=z45 r
   simp only [orL]
   split
   ·rename_i h;rw [this];simp [h]
   ·rename_i h;simp [h]
theorem z1f {a b:Seg}:cmpSeg a b=0↔a=b:=by
 unfold cmpSeg
 rw [z45]
 simp only [List.mem_cons,List.not_mem_nil,or_false,forall_eq_or_imp,forall_eq]
 rw [cmpI_z,cmpI_z,qo _ _ (fun _ _ _ _=>cmpI_z)]
 constructor
 ·rintro ⟨h1,_,h3⟩
  cases a;cases b;simp_all
 ·rintro rfl;exact ⟨rfl,rfl,rfl⟩
theorem z4x {a b:List Seg}:cmpPath a b=0↔a=b:=qo _ _ fun _ _ _ _=>z1f
theorem ya {a b:Bool}:IntKind.i64.wrap (truthF a - truthF b)=0↔a=b:=by
 cases a <;> cases b <;> decide
theorem z2w {a b:At}:cmpAs a b=0↔a=b:=by
 unfold cmpAs
 rw [z45]
 simp only [List.mem_cons,List.not_mem_nil,or_false,forall_eq_or_imp,forall_eq]
 rw [cmpI_z,z4x,cmpI_z,ya,cmpI_z,ya,cmpI_z,ya,qo _ _ (fun _ _ _ _=>cmpI_z)]
 constructor
 ·rintro ⟨h1,h2,h3,h4,h5,h6,h7,h8,h9⟩
  cases a;cases b;simp_all
 ·rintro rfl;exact ⟨rfl,rfl,rfl,rfl,rfl,rfl,rfl,rfl,rfl⟩
instance:DecidableEq Seg:=fun a b=>decidable_of_iff (cmpSeg a b=0) z1f
instance:DecidableEq At:=fun a b=>decidable_of_iff (cmpAs a b=0) z2w
theorem zax (a b:At) (ha:a.ok) (hb:b.ok):Pur Tryz.prog 29 [.agg a.c,.agg b.c] (.bool (decide (canonA a=canonA b))):=by
 have h:=c29 a b ha hb
 have e:decide (cmpAs (canonA a) (canonA b)=0)=decide (canonA a=canonA b):=by
  rw [Bool.eq_iff_iff,decide_eq_true_eq,decide_eq_true_eq];exact z2w
 rw [e] at h
 exact h
def Inc (l:List Int):Prop:=l.Pairwise (· < ·)
theorem z05 (x:Int):∀ l:List Int,x ∈ ddA l↔x ∈ l
 | []=>by simp [ddA]
 | [a]=>by simp [ddA]
 | a::b::r=>by
   have:=z05 x (b::r)
   simp only [ddA]
   split
   ·rename_i h;subst h;rw [this];simp
   ·simp only [List.mem_cons] at *;rw [this]
theorem z2x:∀ l:List Int,l.Pairwise (· ≤ ·)→Inc (ddA l)
 | [],_ => .nil
 | [a],_=>by simp [ddA,Inc]
 | a::b::r,h=>by
   obtain ⟨h1,h2⟩:=List.pairwise_cons.1 h
   have ih:=z2x (b::r) h2
   simp only [ddA]
   split
   ·exact ih
   ·rename_i hab
    refine List.pairwise_cons.2 ⟨fun x hx => ?_,ih⟩
    have hx':=(z05 x (b::r)).1 hx
    have h3:=h1 b (by simp)
    rcases List.mem_cons.1 hx' with rfl | hx''
    ·omega
    ·have h4:=(List.pairwise_cons.1 h2).1 x hx''
     omega
theorem vo {l:List Int} {x:Int}:x ∈ canonC l↔x ∈ l:=by
 rw [canonC,z05,(List.mergeSort_perm l leI).mem_iff]
theorem vn (l:List Int):Inc (canonC l):=z2x _ (by
 have:=List.pairwise_mergeSort (le:=leI) (fun a b c h1 h2=>by simp only [leI,decide_eq_true_eq] at *;omega) (fun a b=>by simp only [leI,Bool.or_eq_true,decide_eq_true_eq];omega) l
 exact this.imp fun {a b} h=>by simpa [leI] using h)
theorem z38 {l m:List Int} (hl:Inc l) (hm:Inc m) (h:∀ x,x ∈ l↔x ∈ m):l=m:=by
 have nd:∀ l:List Int,Inc l→l.Nodup:=fun l h=>h.imp fun {a b} h e=>by omega
 refine List.Perm.eq_of_pairwise (le:=(· < ·)) (fun a b _ _ h1 h2=>by omega) hl hm ((List.perm_ext_iff_of_nodup (nd l hl) (nd m hm)).2 h)
theorem z2h {l:List Int} (h:Inc l):canonC l=l:=z38 (vn l) h fun x=>vo
end Go.Am
namespace Go.Am
structure PO {α:Type} (f:α→α→Int):Prop where
 anti:∀ a b,f b a<0↔0<f a b
 tr:∀ a b c,f a b≤0→f b c≤0→f a c≤0
theorem PO.z {α:Type} {f:α→α→Int} (h:PO f) {a b:α} (e:f a b=0):f b a=0:=by
 have h1:=h.anti a b;have h2:=h.anti b a;omega
theorem PO.lt {α:Type} {f:α→α→Int} (h:PO f) {a b c:α} (h1:f a b<0) (h2:f b c≤0):f a c<0:=by
 apply Classical.byContradiction;intro hn
 have a1:=h.anti a c;have a2:=h.anti c a;have a3:=h.anti a b;have a4:=h.anti b a
 have:=h.tr b c a h2 (by omega)
 omega
theorem PO.lt' {α:Type} {f:α→α→Int} (h:PO f) {a b c:α} (h1:f a b≤0) (h2:f b c<0):f a c<0:=by
 apply Classical.byContradiction;intro hn
 have a1:=h.anti a c;have a2:=h.anti c a;have a3:=h.anti b c;have a4:=h.anti c b
 have:=h.tr c a b (by omega) h1
 omega
def lex {α:Type} (f g:α→α→Int) (a b:α):Int:=if f a b=0 then g a b else f a b
theorem PO.lex {α:Type} {f g:α→α→Int} (hf:PO f) (hg:PO g):PO (lex f g) where
 anti a b:=by
  have h1:=hf.anti a b;have h2:=hf.anti b a;have h3:=hg.anti a b
  unfold Am.lex
  by_cases e:f a b=0
  ·rw [if_pos e,if_pos (hf.z e)];exact h3
  ·rw [if_neg e,if_neg (fun e'=>e (hf.z e'))];exact h1
 tr a b c:=by
  unfold Am.lex
  intro h1 h2
  by_cases e1:f a b=0 <;> by_cases e2:f b c=0
  ·rw [if_pos e1] at h1;rw [if_pos e2] at h2
   have h3:=hf.tr a b c (by omega) (by omega)
   have h4:=hf.tr c b a (by rw [hf.z e2];omega) (by rw [hf.z e1];omega)
   have h5:=hf.anti a c;have h6:=hf.anti c a
   rw [if_pos (by omega)];exact hg.tr a b c h1 h2
  ·rw [if_neg e2] at h2
   have:=hf.lt' (a:=a) (b:=b) (c:=c) (by omega) (by omega)
   rw [if_neg (by omega)];omega
  ·rw [if_neg e1] at h1
   have:=hf.lt (a:=a) (b:=b) (c:=c) (by omega) (by omega)
   rw [if_neg (by omega)];omega
  ·rw [if_neg e1] at h1;rw [if_neg e2] at h2
   have:=hf.lt (a:=a) (b:=b) (c:=c) (by omega) (by omega)
   rw [if_neg (by omega)];omega
theorem PO.key {α β:Type} {f:β→β→Int} (k:α→β) (h:PO f):PO fun a b=>f (k a) (k b):=⟨fun _ _=>h.anti _ _,fun _ _ _=>h.tr _ _ _⟩
theorem PO.cmpI:PO cmpI:=⟨fun a b=>by unfold Am.cmpI;split <;> split <;> (try split) <;> (try split) <;> omega,fun a b c=>by unfold Am.cmpI;split <;> split <;> (try split) <;> (try split) <;> (try split) <;> omega⟩
theorem PO.truth:PO fun a b:Bool=>IntKind.i64.wrap (truthF a - truthF b):=⟨by decide,by decide⟩
theorem PO.zero {α:Type}:PO fun _ _:α=>(0:Int):=⟨fun _ _=>by omega,fun _ _ _ _ _=>by omega⟩
theorem PO.list {α:Type} {f:α→α→Int} (h:PO f):PO (cmpG f) where
 anti:=by
  intro a
  induction a with
  | nil=>intro b;cases b <;> simp [cmpG]
  | cons x r ih =>
    intro b
    cases b with
    | nil=>simp [cmpG]
    | cons y s =>
      have h1:=h.anti x y;have h2:=h.anti y x
      simp only [cmpG]
      by_cases e:f x y=0
      ·rw [if_pos e,if_pos (h.z e)];exact ih s
      ·rw [if_neg e,if_neg (fun e'=>e (h.z e'))];exact h1
 tr:=by
  intro a
  induction a with
  | nil=>intro b c _ _;cases c <;> simp [cmpG]
  | cons x r ih =>
    intro b c
    cases b with
    | nil=>intro h1;simp [cmpG] at h1
    | cons y s =>
      cases c with
      | nil=>intro _ h2;simp [cmpG] at h2
      | cons z t =>
        simp only [cmpG]
        intro h1 h2
        by_cases e1:f x y=0 <;> by_cases e2:f y z=0
        ·rw [if_pos e1] at h1;rw [if_pos e2] at h2
         have h3:=h.tr x y z (by omega) (by omega)
         have h4:=h.tr z y x (by rw [h.z e2];omega) (by rw [h.z e1];omega)
         have h5:=h.anti x z;have h6:=h.anti z x
         rw [if_pos (by omega)];exact ih s t h1 h2
        ·rw [if_neg e2] at h2
         have:=h.lt' (a:=x) (b:=y) (c:=z) (by omega) (by omega)
         rw [if_neg (by omega)];omega
        ·rw [if_neg e1] at h1
         have:=h.lt (a:=x) (b:=y) (c:=z) (by omega) (by omega)
         rw [if_neg (by omega)];omega
        ·rw [if_neg e1] at h1;rw [if_neg e2] at h2
         have:=h.lt (a:=x) (b:=y) (c:=z) (by omega) (by omega)
         rw [if_neg (by omega)];omega
theorem PO.congr {α:Type} {f g:α→α→Int} (h:PO f) (e:∀ a b,g a b=f a b):PO g:=⟨fun a b=>by rw [e,e];exact h.anti a b,fun a b c=>by rw [e,e,e];exact h.tr a b c⟩
theorem PO.seg:PO cmpSeg:=by
 refine (PO.lex (PO.key Seg.kind PO.cmpI) (PO.lex (PO.key (fun s:Seg=>(s.ls.length:Int)) PO.cmpI) (PO.lex (PO.key Seg.ls PO.cmpI.list) PO.zero))).congr fun a b => ?_
 simp only [cmpSeg,orL];rfl
theorem PO.path:PO cmpPath:=PO.seg.list
theorem PO.at:PO cmpAs:=by
 refine (PO.lex (PO.key At.org PO.cmpI) (PO.lex (PO.key At.path PO.path) (PO.lex (PO.key At.nxt PO.cmpI) (PO.lex (PO.key At.hm PO.truth) (PO.lex (PO.key At.med PO.cmpI) (PO.lex (PO.key At.hp PO.truth) (PO.lex (PO.key At.prf PO.cmpI) (PO.lex (PO.key At.atm PO.truth) (PO.lex (PO.key At.cms PO.cmpI.list) PO.zero))))))))).congr fun a b => ?_
 simp only [cmpAs,orL];rfl
end Go.Am
namespace Go.Am
theorem yf (s:Store) (i:Nat):Store.sub (s.del i) s:=fun j o hj=>by
 by_cases e:j=i
 ·subst e;simp at hj
 ·rw [Store.del_ne _ e] at hj;exact hj
end Go.Am
namespace Go.Am
open Go.Proofs Go.Sort
def zCells:List AV:=[.int .i64 0,.nils,.int .u32 0,.bool false,.int .u32 0,.bool false,.int .u32 0,.bool false,.nils]
def zeroAt:At:=⟨0,[],0,false,0,false,0,false,[]⟩
end Go.Am
namespace Go.Am
def b4 (n:Int):List Int:=[n / 16777216 % 256,n / 65536 % 256,n / 256 % 256,n % 256]
def n4 (a b c d:Int):Int:=((a*256+b)*256+c)*256+d
def U8s (l:List Int):Prop:=∀ x ∈ l,0≤x∧x<256
def U32s (l:List Int):Prop:=∀ x ∈ l,0≤x∧x<4294967296
theorem z13 (n:Int):U8s (b4 n):=by
 intro x hx
 simp only [b4,List.mem_cons,List.not_mem_nil,or_false] at hx
 omega
theorem z7t {n:Int} (h0:0≤n) (h1:n<4294967296):n4 (n / 16777216 % 256) (n / 65536 % 256) (n / 256 % 256) (n % 256)=n:=by
 unfold n4;omega
theorem U8s.append {l m:List Int} (h:U8s l) (h':U8s m):U8s (l++m):=fun x hx=>(List.mem_append.1 hx).elim (h x) (h' x)
theorem U8s.take {l:List Int} (h:U8s l) (n:Nat):U8s (l.take n):=fun x hx=>h x (List.mem_of_mem_take hx)
theorem U8s.drop {l:List Int} (h:U8s l) (n:Nat):U8s (l.drop n):=fun x hx=>h x (List.mem_of_mem_drop hx)
def words:Nat→List Int→List Int
 | n+1,a::b::c::d::r=>n4 a b c d::words n r
 | _,_=>[]
theorem x9:∀ (n:Nat) (l:List Int),4*n≤l.length→(words n l).length=n
 | 0,l,_=>by cases l <;> simp [words]
 | n+1,[],h=>by simp at h
 | n+1,[_],h=>by simp at h;omega
 | n+1,[_,_],h=>by simp at h;omega
 | n+1,[_,_,_],h=>by simp at h;omega
 | n+1,a::b::c::d::r,h=>by simp only [words,List.length_cons];rw [x9 n r (by simp at h;omega)]
def encW (l:List Int):List Int:=l.flatMap b4
theorem zu (l:List Int):(encW l).length=4*l.length:=by
 induction l with
 | nil=>rfl
 | cons x r ih=>simp only [encW,List.flatMap_cons,List.length_append] at *;rw [ih];simp [b4];omega
theorem v7:∀ (l r:List Int),U32s l→words l.length (encW l++r)=l
 | [],r,_=>by cases r <;> rfl
 | x::l,r,h=>by
   have hx:=h x (by simp)
   have:=v7 l r (fun y hy=>h y (by simp [hy]))
   simp only [encW,List.flatMap_cons,List.append_assoc,List.length_cons] at *
   simp only [b4,List.cons_append,List.nil_append,words]
   rw [this,z7t hx.1 hx.2]
def encSeg (s:Seg):List Int:=[s.kind % 256,(s.ls.length:Int) % 256]++encW s.ls
def encPath (l:List Seg):List Int:=l.flatMap encSeg
def segRight (s:Seg):Prop:=(s.kind=1∨s.kind=2)∧1≤s.ls.length∧s.ls.length≤255
instance (s:Seg):Decidable (segRight s):=inferInstanceAs (Decidable (_∧_∧_))
def pathRight (l:List Seg):Prop:=(∀ s ∈ l,segRight s)∧l.length≤16
instance (l:List Seg):Decidable (pathRight l):=inferInstanceAs (Decidable (_∧_))
def segs:Nat→List Int→Option (List Seg)
 | 0,b=>if b=[] then some [] else none
 | _+1,[]=>some []
 | _+1,[_]=>none
 | f+1,k::n::r=>if (r.length:Int)<4*n then none else (segs f (r.drop (4*n.toNat))).map (⟨k,words n.toNat r⟩ :: ·)
def decPath (b:List Int):Option (List Seg):=match segs b.length b with
 | some l=>if pathRight l then some l else none
 | none=>none
theorem z0u:∀ (f g:Nat) (b:List Int),b.length≤f→b.length≤g→segs f b=segs g b
 | 0,0,_,_,_=>rfl
 | 0,g+1,[],_,_=>by simp [segs]
 | 0,g+1,_::_,h,_=>by simp at h
 | f+1,0,[],_,_=>by simp [segs]
 | f+1,0,_::_,_,h=>by simp at h
 | f+1,g+1,[],_,_=>by simp [segs]
 | f+1,g+1,[_],_,_=>by simp [segs]
 | f+1,g+1,k::n::r,h1,h2=>by
   simp only [segs]
   split
   ·rfl
   ·rw [z0u f g _ (by simp at h1 ⊢;omega) (by simp at h2 ⊢;omega)]
theorem z22:∀ (l:List Seg) (f:Nat),(encPath l).length≤f→(∀ s ∈ l,segRight s∧U32s s.ls)→segs f (encPath l)=some l
 | [],f,_,_=>by cases f <;> simp [segs,encPath]
 | s::l,0,h,_=>by simp [encPath,encSeg] at h
 | s::l,f+1,h,ho=>by
   obtain ⟨⟨h1,h2,h3⟩,h4⟩:=ho s (by simp)
   have e1:s.kind % 256=s.kind:=by omega
   have e2:(s.ls.length:Int) % 256=(s.ls.length:Int):=by omega
   have hl:=zu s.ls
   have ih:=z22 l f (by simp only [encPath,List.flatMap_cons,List.length_append,encSeg,List.length_cons] at h ⊢;omega) fun x hx=>ho x (by simp [hx])
   simp only [encPath,List.flatMap_cons,encSeg,List.cons_append,List.nil_append,List.append_assoc,segs,e1,e2] at *
   rw [if_neg (by simp only [List.length_append,hl];omega),Int.toNat_natCast,v7 _ _ h4,List.drop_left' (by rw [hl]),ih]
   rfl
theorem uw {l:List Seg} (hr:pathRight l) (h:∀ s ∈ l,U32s s.ls):decPath (encPath l)=some l:=by
 unfold decPath
 rw [z22 l _ (Nat.le_refl _) fun s hs=>⟨hr.1 s hs,h s hs⟩]
 simp only
 rw [if_pos hr]
def oneA (fl kind:Int) (v:List Int):List Int :=
 (if 255<v.length then [fl+16,kind,(v.length:Int) / 256 % 256,(v.length:Int) % 256] else [fl,kind,(v.length:Int)])++v
def encA (a:At):List Int :=
 oneA 64 1 [a.org % 256]++oneA 64 2 (encPath a.path)++oneA 64 3 (b4 a.nxt)++(if a.hm then oneA 128 4 (b4 a.med) else [])++(if a.hp then oneA 64 5 (b4 a.prf) else []) ++
  (if a.atm then oneA 64 6 [] else [])++(if a.cms=[] then [] else oneA 192 8 (encW a.cms))
def goodN (n:Int):Prop:=n / 16777216≠0∧n / 16777216≠127∧n / 16777216<224
instance (n:Int):Decidable (goodN n):=inferInstanceAs (Decidable (_∧_∧_))
def atRight (a:At):Prop:=(0≤a.org∧a.org≤2)∧pathRight a.path∧goodN a.nxt∧(a.hm=false→a.med=0)∧(a.hp=false→a.prf=0)∧a.cms.length≤32∧Inc a.cms
structure Ch where
 fl:Int
 kind:Int
 val:List Int
 all:List Int
 rest:List Int
def andI (a b:Int):Int:=bitInt .and .i64 a b
def chunk:List Int→Option Ch
 | f::k::h::r =>
   if andI f 16=0 then (if (r.length:Int)<h then none else some ⟨f,k,r.take h.toNat,(f::k::h::r).take (3+h.toNat),r.drop h.toNat⟩)
   else match r with
    | l::r'=>if (r'.length:Int)<h*256+l then none else some ⟨f,k,r'.take (h*256+l).toNat,(f::k::h::r).take (4+(h*256+l).toNat),r'.drop (h*256+l).toNat⟩
    | []=>none
 | _=>none
def wantOf (k:Int):Int:=if k=1∨k=2∨k=3∨k=5∨k=6 then 64 else if k=4 then 128 else if k=8 then 192 else 0
def fitsOf (k:Int) (n:Nat):Prop:=(k=1→n=1)∧(k=3∨k=4∨k=5→n=4)∧(k=6→n=0)∧(k=8→n % 4=0)
instance (k:Int) (n:Nat):Decidable (fitsOf k n):=inferInstanceAs (Decidable (_∧_∧_∧_))
abbrev Nt:=Int×List Int
def valA (c:Ch) (a:At):Except Nt At :=
 if c.kind=1 then (if 2<c.val.headD 0 then .error (6,c.all) else .ok { a with org:=c.val.headD 0 })
 else if c.kind=2 then (match decPath c.val with | some l => .ok { a with path:=l } | none => .error (11,[]))
 else if c.kind=3 then (if goodN ((words 1 c.val).headD 0) then .ok { a with nxt:=(words 1 c.val).headD 0 } else .error (8,c.all))
 else if c.kind=4 then .ok { a with hm:=true,med:=(words 1 c.val).headD 0 }
 else if c.kind=5 then .ok { a with hp:=true,prf:=(words 1 c.val).headD 0 }
 else if c.kind=6 then .ok { a with atm:=true }
 else (if 32<c.val.length / 4 then .error (9,c.all) else .ok { a with cms:=words (c.val.length / 4) c.val })
def stepA (c:Ch) (a:At):Except Nt At :=
 if wantOf c.kind=0 then (if andI c.fl 128=0 then .error (2,c.all) else .ok a)
 else if andI c.fl 192≠wantOf c.kind∨andI c.fl 32≠0∧c.kind≠8 then .error (4,c.all)
 else if ¬ fitsOf c.kind c.val.length then .error (5,c.all)
 else valA c a
def decL (inner:Bool):Nat→List Int→At→List Int→List Int→Except Nt (At×List Int)
 | _,[],a,_,ty => .ok (a,ty)
 | 0,_::_,_,_,_ => .error (1,[])
 | f+1,x::r,a,seen,ty=>match chunk (x::r) with
   | none => .error (1,[])
   | some c=>if c.kind ∈ seen then .error (1,[])
     else if c.kind=5∧inner=false then decL inner f c.rest a (c.kind::seen) ty
     else match stepA c a with
      | .error n => .error n
      | .ok a'=>decL inner f c.rest a' (c.kind::seen) (ty++[c.kind])
theorem wn {b:List Int} {c:Ch} (h:chunk b=some c):c.rest.length<b.length:=by
 unfold chunk at h
 split at h
 ·split at h
  ·split at h
   ·cases h
   ·cases h;simp;omega
  ·split at h
   ·split at h
    ·cases h
    ·cases h;simp;omega
   ·cases h
 ·cases h
theorem wq (inner:Bool):∀ (f g:Nat) (b:List Int) (a:At) (seen ty:List Int),b.length≤f→b.length≤g→decL inner f b a seen ty=decL inner g b a seen ty
 | 0,0,_,_,_,_,_,_=>rfl
 | 0,g+1,[],_,_,_,_,_=>by simp [decL]
 | 0,g+1,_::_,_,_,_,h,_=>by simp at h
 | f+1,0,[],_,_,_,_,_=>by simp [decL]
 | f+1,0,_::_,_,_,_,_,h=>by simp at h
 | f+1,g+1,[],_,_,_,_,_=>by simp [decL]
 | f+1,g+1,x::r,a,seen,ty,h1,h2=>by
   simp only [decL]
   cases hc:chunk (x::r) with
   | none=>rfl
   | some c =>
     have hl:=wn hc
     simp only
     split
     ·rfl
     ·split
      ·exact wq inner f g _ _ _ _ (by simp at h1 hl;omega) (by simp at h2 hl;omega)
      ·split
       ·rfl
       ·exact wq inner f g _ _ _ _ (by simp at h1 hl;omega) (by simp at h2 hl;omega)
def decA (inner:Bool) (b:List Int):Except Nt (At×List Int):=match decL inner b.length b zeroAt [] [] with
 | .error n => .error n
 | .ok (a,ty) => .ok (canonA a,ty.mergeSort leI)
end Go.Am
namespace Go.Am
def decB (inner:Bool) (b:List Int) (a:At) (seen ty:List Int):Except Nt (At×List Int):=decL inner b.length b a seen ty
theorem z6i (inner:Bool) (a:At) (seen ty:List Int):decB inner [] a seen ty = .ok (a,ty):=by simp [decB,decL]
theorem z4y (inner:Bool) {b:List Int} (hb:b≠[]) (a:At) (seen ty:List Int):decB inner b a seen ty=match chunk b with
 | none => .error (1,[])
 | some c=>if c.kind ∈ seen then .error (1,[])
   else if c.kind=5∧inner=false then decB inner c.rest a (c.kind::seen) ty
   else match stepA c a with
    | .error n => .error n
    | .ok a'=>decB inner c.rest a' (c.kind::seen) (ty++[c.kind]):=by
 cases b with
 | nil=>exact absurd rfl hb
 | cons x r =>
   simp only [decB,List.length_cons,decL]
   cases hc:chunk (x::r) with
   | none=>rfl
   | some c =>
     have hl:=wn hc
     simp only [List.length_cons] at hl ⊢
     have e:∀ a' s t,decL inner r.length c.rest a' s t=decL inner c.rest.length c.rest a' s t:=fun a' s t=>wq inner _ _ _ _ _ _ (by omega) (Nat.le_refl _)
     simp only [e]
     try rfl
theorem z80 (inner:Bool) (b:List Int):decA inner b=match decB inner b zeroAt [] [] with | .error n => .error n | .ok (a,ty) => .ok (canonA a,ty.mergeSort leI):=rfl
def wideF (fl:Int) (v:List Int):Int:=if 255<v.length then fl+16 else fl
theorem z8s (fl k:Int) (v:List Int):oneA fl k v≠[]:=by unfold oneA;split <;> simp
theorem x7 (fl k:Int) (v:List Int):(oneA fl k v).length=(if 255<v.length then 4 else 3)+v.length:=by unfold oneA;split <;> simp <;> omega
theorem z7r {fl:Int} (h:fl=64∨fl=128∨fl=192):andI fl 16=0∧andI (fl+16) 16≠0∧andI fl 192=fl∧andI (fl+16) 192=fl∧andI fl 32=0∧andI (fl+16) 32=0∧andI 192 128≠0∧andI (192+16) 128≠0:=by
 rcases h with rfl | rfl | rfl <;> decide
theorem z4w {fl:Int} (h:fl=64∨fl=128∨fl=192) (k:Int) (v r:List Int) (hv:v.length<65536):chunk (oneA fl k v++r)=some ⟨wideF fl v,k,v,oneA fl k v,r⟩:=by
 obtain ⟨h1,h2,_⟩:=z7r h
 have hl:=x7 fl k v
 unfold oneA wideF at *
 by_cases c:255<v.length
 ·simp only [if_pos c] at hl ⊢
  simp only [List.cons_append,List.nil_append,chunk]
  have e:(v.length:Int) / 256 % 256*256+(v.length:Int) % 256=(v.length:Int):=by omega
  have e4:List.take (4+v.length) ((fl+16)::k::((v.length:Int) / 256 % 256)::((v.length:Int) % 256)::(v++r))=(fl+16)::k::((v.length:Int) / 256 % 256)::((v.length:Int) % 256)::v:=by
   rw [Nat.add_comm];simp
  rw [if_neg h2,e,if_neg (by simp only [List.length_append];omega),Int.toNat_natCast,e4,List.take_left' rfl,List.drop_left' rfl]
 ·simp only [if_neg c] at hl ⊢
  simp only [List.cons_append,List.nil_append,chunk]
  have e4:List.take (3+v.length) (fl::k::(v.length:Int)::(v++r))=fl::k::(v.length:Int)::v:=by
   rw [Nat.add_comm];simp
  rw [if_pos h1,if_neg (by simp only [List.length_append];omega),Int.toNat_natCast,e4,List.take_left' rfl,List.drop_left' rfl]
theorem z6j (inner:Bool) {fl:Int} (h:fl=64∨fl=128∨fl=192) (k:Int) (v r:List Int) (hv:v.length<65536) (a a':At) (seen ty:List Int) (hk:k ∉ seen) (hs:stepA ⟨wideF fl v,k,v,oneA fl k v,r⟩ a = .ok a') :
 decB inner (oneA fl k v++r) a seen ty=if k=5∧inner=false then decB inner r a (k::seen) ty else decB inner r a' (k::seen) (ty++[k]):=by
 rw [z4y inner (by simp [z8s]),z4w h k v r hv]
 simp only [if_neg hk,hs]
def okVal (k:Int) (v:List Int):Prop :=
 (k=1→v.length=1∧v.headD 0≤2)∧(k=2→∃ l,decPath v=some l)∧(k=3→v.length=4∧goodN ((words 1 v).headD 0))∧(k=4∨k=5→v.length=4)∧(k=6→v=[])∧(k=8→v.length % 4=0∧v.length / 4≤32)
def setV (k:Int) (v:List Int) (a:At):At :=
 if k=1 then { a with org:=v.headD 0 } else if k=2 then { a with path:=(decPath v).getD [] } else if k=3 then { a with nxt:=(words 1 v).headD 0 }
 else if k=4 then { a with hm:=true,med:=(words 1 v).headD 0 } else if k=5 then { a with hp:=true,prf:=(words 1 v).headD 0 } else if k=6 then { a with atm:=true }
 else if k=8 then { a with cms:=words (v.length / 4) v } else a
theorem z4d {k:Int} (hk:wantOf k≠0) (v:List Int) (hv:okVal k v) (al r:List Int) (a:At):stepA ⟨wideF (wantOf k) v,k,v,al,r⟩ a = .ok (setV k v a):=by
 have hw:wantOf k=64∨wantOf k=128∨wantOf k=192:=by
  unfold wantOf at hk ⊢
  split
  ·exact .inl rfl
  ·rename_i h1
   rw [if_neg h1] at hk
   split
   ·exact .inr (.inl rfl)
   ·rename_i h2
    rw [if_neg h2] at hk
    split
    ·exact .inr (.inr rfl)
    ·rename_i h3;rw [if_neg h3] at hk;exact absurd rfl hk
 obtain ⟨_,_,f1,f2,f3,f4,_⟩:=z7r hw
 have g1:andI (wideF (wantOf k) v) 192=wantOf k:=by unfold wideF;split <;> assumption
 have g2:andI (wideF (wantOf k) v) 32=0:=by unfold wideF;split <;> assumption
 have hkk:k=1∨k=2∨k=3∨k=4∨k=5∨k=6∨k=8:=by
  unfold wantOf at hk
  by_cases h1:k=1∨k=2∨k=3∨k=5∨k=6
  ·omega
  ·rw [if_neg h1] at hk
   by_cases h2:k=4
   ·omega
   ·rw [if_neg h2] at hk
    by_cases h3:k=8
    ·omega
    ·rw [if_neg h3] at hk;exact absurd rfl hk
 unfold stepA
 simp only
 rw [if_neg hk,if_neg (by rw [g1,g2];simp),if_neg]
 ·obtain ⟨v1,v2,v3,v4,v5,v6⟩:=hv
  unfold valA setV
  rcases hkk with rfl | rfl | rfl | rfl | rfl | rfl | rfl
  ·have:=v1 rfl;simp at this ⊢;omega
  ·obtain ⟨l,hl⟩:=v2 rfl;simp [hl]
  ·have:=(v3 rfl).2;simp at this ⊢;exact this
  ·simp
  ·simp
  ·simp
  ·have:=(v6 rfl).2;simp;omega
 ·obtain ⟨v1,v2,v3,v4,v5,v6⟩:=hv
  simp only [Classical.not_not]
  refine ⟨fun h=>(v1 h).1,fun h => ?_,fun h=>by rw [v5 h];rfl,fun h=>(v6 h).1⟩
  rcases h with h | h | h
  ·exact (v3 h).1
  ·exact v4 (.inl h)
  ·exact v4 (.inr h)
structure It where
 k:Int
 v:List Int
def It.enc (i:It):List Int:=oneA (wantOf i.k) i.k i.v
def It.ok (i:It):Prop:=wantOf i.k≠0∧okVal i.k i.v∧i.v.length<65536
def encIts (l:List It):List Int:=l.flatMap It.enc
theorem za6 {k:Int} (hk:wantOf k≠0):wantOf k=64∨wantOf k=128∨wantOf k=192:=by
 unfold wantOf at hk ⊢
 split
 ·exact .inl rfl
 ·rename_i h1
  rw [if_neg h1] at hk
  split
  ·exact .inr (.inl rfl)
  ·rename_i h2
   rw [if_neg h2] at hk
   split
   ·exact .inr (.inr rfl)
   ·rename_i h3;rw [if_neg h3] at hk;exact absurd rfl hk
def keepI (inner:Bool) (l:List It):List It:=l.filter fun i => !(decide (i.k=5) && !inner)
theorem qh (inner:Bool):∀ (l:List It) (r:List Int) (a:At) (seen ty:List Int),(∀ i ∈ l,i.ok)→(l.map It.k).Nodup→(∀ i ∈ l,i.k ∉ seen) →
 decB inner (encIts l++r) a seen ty=decB inner r ((keepI inner l).foldl (fun a i=>setV i.k i.v a) a) ((l.map It.k).reverse++seen) (ty++(keepI inner l).map It.k)
 | [],r,a,seen,ty,_,_,_=>by simp [encIts,keepI]
 | i::l,r,a,seen,ty,ho,hn,hs=>by
   obtain ⟨o1,o2,o3⟩:=ho i (by simp)
   simp only [List.map_cons,List.nodup_cons] at hn
   have hs':∀ j ∈ l,j.k ∉ i.k::seen:=fun j hj=>by
    simp only [List.mem_cons,not_or]
    exact ⟨fun e=>hn.1 (by rw [←e];exact List.mem_map_of_mem hj),hs j (by simp [hj])⟩
   have e:encIts (i::l)++r=oneA (wantOf i.k) i.k i.v++(encIts l++r):=by simp [encIts,It.enc]
   rw [e,z6j inner (za6 o1) i.k i.v _ o3 a _ seen ty (hs i (by simp)) (z4d o1 i.v o2 _ _ a)]
   by_cases c:i.k=5∧inner=false
   ·rw [if_pos c,qh inner l r a (i.k::seen) ty (fun j hj=>ho j (by simp [hj])) hn.2 hs']
    have:keepI inner (i::l)=keepI inner l:=by simp [keepI,c.1,c.2]
    rw [this];simp
   ·rw [if_neg c,qh inner l r _ (i.k::seen) _ (fun j hj=>ho j (by simp [hj])) hn.2 hs']
    have:keepI inner (i::l)=i::keepI inner l:=by
     simp only [keepI,List.filter_cons]
     rw [if_pos]
     cases inner <;> simp at c ⊢ <;> omega
    rw [this];simp
def itsA (a:At):List It:=[⟨1,[a.org % 256]⟩,⟨2,encPath a.path⟩,⟨3,b4 a.nxt⟩]++(if a.hm then [⟨4,b4 a.med⟩] else [])++(if a.hp then [⟨5,b4 a.prf⟩] else [])++(if a.atm then [⟨6,[]⟩] else [])++(if a.cms=[] then [] else [⟨8,encW a.cms⟩])
theorem z6k (a:At):encA a=encIts (itsA a):=by
 unfold encA itsA encIts
 cases a.hm <;> cases a.hp <;> cases a.atm <;> by_cases h:a.cms=[] <;> simp [h,It.enc,wantOf]
def okNums (a:At):Prop:=(0≤a.nxt∧a.nxt<4294967296)∧(0≤a.med∧a.med<4294967296)∧(0≤a.prf∧a.prf<4294967296)∧U32s a.cms∧∀ s ∈ a.path,U32s s.ls
theorem z03 {n:Int} (h:0≤n∧n<4294967296):(words 1 (b4 n)).headD 0=n:=by
 simp only [b4,words,List.headD_cons];exact z7t h.1 h.2
theorem xn {l:List Seg} (h:pathRight l):(encPath l).length≤16352:=by
 have:∀ l:List Seg,(∀ s ∈ l,segRight s)→(encPath l).length≤1022*l.length:=by
  intro l
  induction l with
  | nil=>intro _;simp [encPath]
  | cons s r ih =>
    intro h
    have h1:=ih fun x hx=>h x (by simp [hx])
    have h2:=(h s (by simp)).2.2
    have h3:=zu s.ls
    simp only [encPath,List.flatMap_cons,List.length_append,encSeg,List.length_cons,List.length_nil] at *
    omega
 have h1:=this l h.1
 have h2:=h.2
 omega
theorem z8h {a:At} (hr:atRight a) (hn:okNums a):(∀ i ∈ itsA a,i.ok)∧((itsA a).map It.k).Nodup:=by
 obtain ⟨r1,r2,r3,r4,r5,r6,r7⟩:=hr
 obtain ⟨n1,n2,n3,n4,n5⟩:=hn
 have hp:=xn r2
 have hc:=zu a.cms
 constructor
 ·intro i hi
  simp only [itsA,List.mem_append,List.mem_cons,List.not_mem_nil,or_false] at hi
  have big:∀ n,(b4 n).length=4:=fun _=>rfl
  rcases hi with ((((rfl | rfl | rfl) | hi) | hi) | hi) | hi
  ·refine ⟨by simp [wantOf],⟨fun _=>⟨rfl,by simp;omega⟩,by simp,by simp,by simp,by simp,by simp⟩,by simp⟩
  ·exact ⟨by simp [wantOf],⟨by simp,fun _=>⟨_,uw r2 n5⟩,by simp,by simp,by simp,by simp⟩,by simp only;omega⟩
  ·exact ⟨by simp [wantOf],⟨by simp,by simp,fun _=>⟨rfl,by simp only;rw [z03 n1];exact r3⟩,by simp,by simp,by simp⟩,by simp [b4]⟩
  ·split at hi
   ·simp only [List.mem_cons,List.not_mem_nil,or_false] at hi;subst hi
    exact ⟨by simp [wantOf],⟨by simp,by simp,by simp,fun _=>rfl,by simp,by simp⟩,by simp [b4]⟩
   ·simp at hi
  ·split at hi
   ·simp only [List.mem_cons,List.not_mem_nil,or_false] at hi;subst hi
    exact ⟨by simp [wantOf],⟨by simp,by simp,by simp,fun _=>rfl,by simp,by simp⟩,by simp [b4]⟩
   ·simp at hi
  ·split at hi
   ·simp only [List.mem_cons,List.not_mem_nil,or_false] at hi;subst hi
    exact ⟨by simp [wantOf],⟨by simp,by simp,by simp,by simp,fun _=>rfl,by simp⟩,by simp⟩
   ·simp at hi
  ·split at hi
   ·simp at hi
   ·simp only [List.mem_cons,List.not_mem_nil,or_false] at hi;subst hi
    exact ⟨by simp [wantOf],⟨by simp,by simp,by simp,by simp,by simp,fun _=>⟨by simp only;omega,by simp only;omega⟩⟩,by simp only;omega⟩
 ·unfold itsA
  cases a.hm <;> cases a.hp <;> cases a.atm <;> by_cases h:a.cms=[] <;> simp [h]
def saysI (l:List It):At:=l.foldl (fun a i=>setV i.k i.v a) zeroAt
theorem z77 {a:At} (hr:atRight a) (hn:okNums a):saysI (keepI true (itsA a))=a∧saysI (keepI false (itsA a))={ a with hp:=false,prf:=0 }:=by
 obtain ⟨r1,r2,r3,r4,r5,r6,r7⟩:=hr
 obtain ⟨n1,n2,n3,n4,n5⟩:=hn
 have hw:words (a.cms.length*4 / 4) (encW a.cms)=a.cms:=by
  have:=v7 a.cms [] n4
  rw [List.append_nil] at this
  rw [Nat.mul_div_cancel _ (by omega)];exact this
 have e1:a.org % 256=a.org:=by omega
 have w1:=z03 n1
 have w2:=z03 n2
 have w3:=z03 n3
 have hp:=uw r2 n5
 have hl:(encW a.cms).length / 4=a.cms.length:=by rw [zu];omega
 have hw':words a.cms.length (encW a.cms)=a.cms:=by
  have:=v7 a.cms [] n4
  rwa [List.append_nil] at this
 constructor
 all_goals
  obtain ⟨o,p,n,hm,m,hp',q,t,c⟩:=a
  simp only at r4 r5 e1 w1 w2 w3 hp hl hw'
  cases hm <;> cases hp' <;> cases t <;> by_cases h:c=[] <;> simp [saysI,keepI,itsA,h,setV,zeroAt,e1,w1,w2,w3,hp,hl,hw'] <;> simp_all
end Go.Am
namespace Go.Am
open Go.Proofs
theorem z8g {G:Gh} {w:World} {xs ys:List AV} {cs:Array Value} (h:ImpL xs ys) (hv:VRel G w (.agg xs) (.agg cs)):VRel G w (.agg ys) (.agg cs):=by
 cases hv with
 | agg hl hf hv =>
   refine .agg (by rw [←h.length];exact hl) h.flat fun k hk hk' => ?_
   obtain ⟨b,hb,hr⟩:=h.get k _ (List.getElem?_eq_getElem (by rw [h.length];exact hk))
   rw [List.getElem?_eq_getElem hk] at hb;cases hb
   exact hr.2 _ _ _ (hv k (by rw [h.length];exact hk) hk')
theorem z15 {m:Int} (h1:IntKind.u32.min≤m) (h2:m≤IntKind.u32.max):0≤m∧m<4294967296:=by
 have e1:IntKind.u32.min=0:=rfl
 have e2:IntKind.u32.max=4294967295:=rfl
 omega
theorem dU {k:Nat} (xs:List AV) (h:TOk Tryz.prog (k+1) 23 xs):∃ r:Int,ImpL xs (cU r)∧(0≤r∧r<4294967296):=by
 obtain ⟨m1,rfl,g1,g2⟩:=TOk.int Tryz.underlying23 h
 exact ⟨m1,ImpL.one rfl,z15 g1 g2⟩
theorem zeo (xs:List AV) (h:TOk Tryz.prog 3 63 xs):∃ r:Seg,ImpL xs r.c∧U32s r.ls:=by
 obtain ⟨a,b,rfl,h1,c,d,rfl,h2,rfl⟩:=TOk.struct (ts:=[3,24]) Tryz.underlying63 rfl h
 obtain ⟨m1,rfl,g1,g2⟩:=TOk.int Tryz.underlying3 h1
 obtain ⟨rs,hr,_,hro⟩:=TOk.slI (sz:=1) (by_:=4) Tryz.underlying24 (by kernel_rfl) (by kernel_rfl) cU (fun r=>0≤r∧r<4294967296) dU h2
 exact ⟨⟨m1,rs⟩,(ImpL.one rfl).append (hr.append .nil),hro⟩
theorem dAt (xs:List AV) (h:TOk Tryz.prog 5 26 xs):∃ r:At,ImpL xs r.c∧I64 r.org∧okNums r:=by
 obtain ⟨a1,b1,rfl,h1,a2,b2,rfl,h2,a3,b3,rfl,h3,a4,b4,rfl,h4,a5,b5,rfl,h5,a6,b6,rfl,h6,a7,b7,rfl,h7,a8,b8,rfl,h8,a9,b9,rfl,h9,rfl⟩:=TOk.struct (ts:=[3,22,23,4,23,4,23,4,24]) Tryz.underlying26 rfl h
 obtain ⟨m1,rfl,g1,g2⟩:=TOk.int Tryz.underlying3 h1
 obtain ⟨rs,hr,_,hro⟩:=TOk.slI (sz:=2) (by_:=32) Tryz.underlying22 (by kernel_rfl) (by kernel_rfl) Seg.c (fun r=>U32s r.ls) zeo h2
 obtain ⟨m3,rfl,a31,a32⟩:=TOk.int Tryz.underlying23 h3
 obtain ⟨m4,rfl⟩:=TOk.bool Tryz.underlying4 h4
 obtain ⟨m5,rfl,a51,a52⟩:=TOk.int Tryz.underlying23 h5
 obtain ⟨m6,rfl⟩:=TOk.bool Tryz.underlying4 h6
 obtain ⟨m7,rfl,a71,a72⟩:=TOk.int Tryz.underlying23 h7
 obtain ⟨m8,rfl⟩:=TOk.bool Tryz.underlying4 h8
 obtain ⟨cs,hc,_,hco⟩:=TOk.slI (sz:=1) (by_:=4) Tryz.underlying24 (by kernel_rfl) (by kernel_rfl) cU (fun r=>0≤r∧r<4294967296) dU h9
 exact ⟨⟨m1,rs,m3,m4,m5,m6,m7,m8,cs⟩,(ImpL.one rfl).append (hr.append ((ImpL.one rfl).append ((ImpL.one rfl).append ((ImpL.one rfl).append ((ImpL.one rfl).append ((ImpL.one rfl).append ((ImpL.one rfl).append (hc.append .nil)))))))),⟨g1,g2⟩,z15 a31 a32,z15 a51 a52,z15 a71 a72,hco,hro⟩
theorem aAt {w:World} {a:List AV} {v:Array Value} (hr:VRel (G0 w) w (.agg a) (.agg v)) (h:TOk Tryz.prog 5 26 a):∃ r:At,VRel (G0 w) w (.agg r.c) (.agg v)∧I64 r.org∧okNums r:=by
 obtain ⟨r,hi,ho⟩:=dAt _ h
 exact ⟨r,z8g hi hr,ho⟩
end Go.Am
namespace Go.Am
open Go.Proofs Go.Sort
def cB (n:Int):List AV:=[.int .u8 n]
def WI (τ:Store) (id:Nat) (L:List Int) (s:Store):Prop:=τ id=none∧Store.sub τ s∧∃ v,s id=some (.box [v])∧Own 1 τ (L.map cB) v s
theorem WI.mono {τ s s':Store} {id:Nat} {L:List Int} (h:WI τ id L s) (hs:Store.sub s s'):WI τ id L s':=by
 obtain ⟨h1,h2,v,h3,h4⟩:=h
 exact ⟨h1,Store.sub_trans h2 hs,v,hs _ _ h3,h4.mono hs⟩
theorem s62 (σ:Store):ACalls Tryz.prog 62 [] σ (fun r s=>∃ id,r = .ptr id 0∧WI σ id [] s):=by
 refine zf Tst.F62 (by simp [Tst.F62,Fn.mkX]) ?_
 simp only [Tst.F62,Fn.mkX,Tst.b62]
 simp only [↓vcPre,↓z0,↓reduceIte,vcPost,vcStd,Nat.reduceEqDiff,reduceCtorEq,Nat.reduceAdd,Nat.reduceLeDiff,Int.reduceLT,Int.reduceLE,↓u_setN]
 refine AllocQ.i0 fun id hid => ?_
 simp only [↓vcPre,↓z0,↓reduceIte,vcPost,vcStd,Nat.reduceEqDiff,reduceCtorEq,Nat.reduceAdd,Nat.reduceLeDiff,Int.reduceLT,Int.reduceLE,↓u_setN]
 exact EndQ.to _ _ rfl (Store.sub_refl _) ⟨id,rfl,hid,Store.sub_set _ _ _ hid,.nils,Store.set_same _ _ _,.nil⟩
theorem WI.app1 {τ s:Store} {id b:Nat} {L:List Int} {x:Int} {v:AV} {K:AV→Store→Prop} (h1:τ id=none) (h2:Store.sub τ s) (h3:s id=some (.box [v])) (h4:Own 1 τ (L.map cB) v s) (hL:L.length≤100000000) (hb:s b=none)
 (h:∀ v' s',s' id=some (.box [v])→Own 1 τ ((L++[x]).map cB) v' s'→Store.sub τ s'→K v' s'):appwp 1 1 v (.os b 1 0 1) (s.set b (.arr 1 [cB x])) K:=by
 have hbi:¬ id=b:=fun e=>by subst e;rw [h3] at hb;cases hb
 have hsb:=Store.sub_set s b (.arr 1 [cB x]) hb
 obtain ⟨τ0,q1,q2,q3,q4⟩:∃ τ0,Store.sub τ τ0∧Store.sub τ0 s∧τ0 id=some (.box [v])∧Own 1 τ0 (L.map cB) v s:=by
  rcases h4 with ⟨hk,hv⟩ | ⟨g,hv,hg,hs⟩
  ·exact ⟨s,h2,Store.sub_refl _,h3,.inl ⟨hk,hv⟩⟩
  ·have hgi:¬ id=g:=fun e=>by subst e;rw [hs] at h3;cases h3
   exact ⟨s.del g,sub_del h2 hg,yf _ _,by rw [Store.del_ne _ hgi];exact h3,.inr ⟨g,hv,by simp,hs⟩⟩
 refine Own.app (τ:=τ0) (Store.sub_trans q2 hsb) (q4.mono hsb) (zj (Store.set_same _ _ _) rfl) (by simp;omega) fun v' s' hs' ho' => ?_
 refine h v' s' (hs' _ _ q3) ?_ (Store.sub_trans q1 hs')
 rw [List.map_append];exact ho'.weak q1
theorem Own.setId {esz:Nat} {τ s:Store} {L:List (List AV)} {v:AV} {id:Nat} {o o':Obj} (h:Own esz τ L v s) (hid:s id=some o) (ho:∀ M,o ≠ .arr esz M):Own esz τ L v (s.set id o'):=by
 rcases h with h | ⟨g,h1,h2,h3⟩
 ·exact .inl h
 ·have hgi:¬ g=id:=fun e=>by rw [e,hid] at h3;cases h3;exact ho _ rfl
  exact .inr ⟨g,h1,h2,by rw [Store.set_ne _ _ hgi];exact h3⟩
theorem Own.cell {esz:Nat} {τ s:Store} {L:List (List AV)} {v:AV} (h:Own esz τ L v s):v.isTup=false∧v.cells=[v]:=by
 rcases h with ⟨_,rfl⟩ | ⟨g,rfl,_⟩ <;> exact ⟨rfl,rfl⟩
def beN:Nat→Int→List Int
 | 0,_=>[]
 | k+1,n=>IntKind.u8.wrap (shrInt .u64 n (8*(k:Int)))::beN k n
theorem z75 {τ s:Store} {id:Nat} {L:List Int} (h:WI τ id L s) (hL:L.length≤10000000) (n:Int) (k:Nat) (hk:k≤8):ACalls Tryz.prog 131 [.ptr id 0,.int .u64 n,.int .i64 (k:Int)] s (fun r s'=>r = .tup []∧WI τ id (L++beN k n) s'):=by
 refine zf Tst.F131 (by simp [Tst.F131,Fn.mkX]) ?_
 simp only [Tst.F131,Fn.mkX,Tst.b131]
 simp only [↓vcPre,↓z0,↓reduceIte,vcPost,vcStd,Nat.reduceEqDiff,reduceCtorEq,Nat.reduceAdd,Nat.reduceLeDiff,Int.reduceLT,Int.reduceLE,↓u_setN]
 have em:IntKind.i64.wrap ((k:Int) - 1)=(k:Int) - 1:=za (by unfold I64;omega)
 rw [em]
 refine LoopQ.inv (S:=Nat×List Int×Store) (fun q=>[(0,.ptr id 0),(1,.int .u64 n),(6,.int .i64 ((q.1:Int) - 1))]) (fun q=>q.2.2) (fun q=>q.1≤k∧q.2.1.length+q.1≤10000008∧q.2.1++beN q.1 n=L++beN k n∧WI τ id q.2.1 q.2.2) (fun q=>q.1) (k,L,s) rfl (Store.sub_refl _) ⟨Nat.le_refl _,by simp only;omega,rfl,h⟩ ?_
 rintro ⟨j,M,s⟩ ⟨hj,hM,hE,hW⟩
 simp only at hj hM hE hW
 obtain ⟨h1,h2,v,h3,h4⟩:=hW
 simp only [↓vcPre,↓z0,↓reduceIte,vcPost,vcStd,Nat.reduceEqDiff,reduceCtorEq,Nat.reduceAdd,Nat.reduceLeDiff,Int.reduceLT,Int.reduceLE,↓u_setN]
 refine ⟨fun c1 => ?_,fun c1 => ?_⟩
 ·obtain ⟨m,rfl⟩:∃ m,j=m+1:=⟨j - 1,by omega⟩
  have e1:((m+1:Nat):Int) - 1=m:=by omega
  have e2:IntKind.i64.wrap ((m:Int) - 1)=(m:Int) - 1:=za (by unfold I64;omega)
  have e3:IntKind.i64.wrap (8*(m:Int))=8*(m:Int):=za (by unfold I64;omega)
  rw [e1,e3]
  simp only [h3,↓vcPre,↓z0,↓reduceIte,vcPost,vcStd,Nat.reduceEqDiff,reduceCtorEq,Nat.reduceAdd,Nat.reduceLeDiff,Int.reduceLT,Int.reduceLE,↓u_setN]
  refine ⟨by omega,AllocQ.i0 fun b hb => ?_⟩
  simp only [↓vcPre,↓z0,↓reduceIte,vcPost,vcStd,Nat.reduceEqDiff,reduceCtorEq,Nat.reduceAdd,Nat.reduceLeDiff,Int.reduceLT,Int.reduceLE,↓u_setN]
  refine WI.app1 h1 h2 h3 h4 (by omega) hb fun v' s' g1 g2 g3 => ?_
  have hv:=g2.cell
  simp only [g1,hv.1,hv.2,↓vcPre,↓z0,↓reduceIte,vcPost,vcStd,Nat.reduceEqDiff,reduceCtorEq,Nat.reduceAdd,Nat.reduceLeDiff,Int.reduceLT,Int.reduceLE,↓u_setN]
  refine NextQ.to (m,M++[IntKind.u8.wrap (shrInt .u64 n (8*(m:Int)))],s'.set id (.box [v'])) (by rw [e2]) (Store.sub_refl _) (by simp only;omega) ⟨by simp only;omega,by simp;omega,?_,h1,z6 g3 h1,v',Store.set_same _ _ _,g2.setId g1 (fun M h=>by cases h)⟩
  simp only [beN] at hE
  simp only [List.append_assoc,List.cons_append,List.nil_append]
  exact hE
 ·have hj0:j=0:=by omega
  subst hj0
  simp only [beN,List.append_nil] at hE
  exact EndQ.to _ _ rfl (Store.sub_refl _) ⟨rfl,by rw [←hE];exact ⟨h1,h2,v,h3,h4⟩⟩
theorem qk {τ s:Store} {id:Nat} {L:List Int} (h:WI τ id L s) (hL:L.length≤10000000) (n:Int):ACalls Tryz.prog 101 [.ptr id 0,.int .i64 n] s (fun r s'=>r = .tup []∧WI τ id (L++beN 1 (IntKind.u64.wrap n)) s'):=by
 refine zf Tst.F101 (by simp [Tst.F101,Fn.mkX]) ?_
 simp only [Tst.F101,Fn.mkX,Tst.b101]
 simp only [↓vcPre,↓z0,↓reduceIte,vcPost,vcStd,Nat.reduceEqDiff,reduceCtorEq,Nat.reduceAdd,Nat.reduceLeDiff,Int.reduceLT,Int.reduceLE,↓u_setN]
 refine (z75 h hL _ 1 (by omega)).Q ?_
 rintro r s' ⟨rfl,h'⟩
 simp only [↓vcPre,↓z0,↓reduceIte,vcPost,vcStd,Nat.reduceEqDiff,reduceCtorEq,Nat.reduceAdd,Nat.reduceLeDiff,Int.reduceLT,Int.reduceLE,↓u_setN]
 exact EndQ.to _ _ rfl (Store.sub_refl _) ⟨rfl,h'⟩
theorem zet {τ s:Store} {id:Nat} {L:List Int} (h:WI τ id L s) (hL:L.length≤10000000) (n:Int):ACalls Tryz.prog 102 [.ptr id 0,.int .i64 n] s (fun r s'=>r = .tup []∧WI τ id (L++beN 2 (IntKind.u64.wrap n)) s'):=by
 refine zf Tst.F102 (by simp [Tst.F102,Fn.mkX]) ?_
 simp only [Tst.F102,Fn.mkX,Tst.b102]
 simp only [↓vcPre,↓z0,↓reduceIte,vcPost,vcStd,Nat.reduceEqDiff,reduceCtorEq,Nat.reduceAdd,Nat.reduceLeDiff,Int.reduceLT,Int.reduceLE,↓u_setN]
 refine (z75 h hL _ 2 (by omega)).Q ?_
 rintro r s' ⟨rfl,h'⟩
 simp only [↓vcPre,↓z0,↓reduceIte,vcPost,vcStd,Nat.reduceEqDiff,reduceCtorEq,Nat.reduceAdd,Nat.reduceLeDiff,Int.reduceLT,Int.reduceLE,↓u_setN]
 exact EndQ.to _ _ rfl (Store.sub_refl _) ⟨rfl,h'⟩
theorem zau {τ s:Store} {id:Nat} {L:List Int} (h:WI τ id L s) (hL:L.length≤10000000) (n:Int):ACalls Tryz.prog 104 [.ptr id 0,.int .u32 n] s (fun r s'=>r = .tup []∧WI τ id (L++beN 4 (IntKind.u64.wrap n)) s'):=by
 refine zf Tst.F104 (by simp [Tst.F104,Fn.mkX]) ?_
 simp only [Tst.F104,Fn.mkX,Tst.b104]
 simp only [↓vcPre,↓z0,↓reduceIte,vcPost,vcStd,Nat.reduceEqDiff,reduceCtorEq,Nat.reduceAdd,Nat.reduceLeDiff,Int.reduceLT,Int.reduceLE,↓u_setN]
 refine (z75 h hL _ 4 (by omega)).Q ?_
 rintro r s' ⟨rfl,h'⟩
 simp only [↓vcPre,↓z0,↓reduceIte,vcPost,vcStd,Nat.reduceEqDiff,reduceCtorEq,Nat.reduceAdd,Nat.reduceLeDiff,Int.reduceLT,Int.reduceLE,↓u_setN]
 exact EndQ.to _ _ rfl (Store.sub_refl _) ⟨rfl,h'⟩
theorem u8w (n:Int):IntKind.u8.wrap n=n % 256:=by simp [IntKind.wrap,IntKind.bits,IntKind.signed]
theorem z0f (n:Int):IntKind.u64.wrap n=n % 18446744073709551616:=by simp [IntKind.wrap,IntKind.bits,IntKind.signed]
theorem zf4 (n:Int):IntKind.u32.wrap n=n % 4294967296:=by simp [IntKind.wrap,IntKind.bits,IntKind.signed]
theorem be1 (n:Int):beN 1 (IntKind.u64.wrap n)=[n % 256]:=by
 simp [beN,u8w,z0f,shrInt,IntKind.bits]
theorem be2 (n:Int):beN 2 (IntKind.u64.wrap n)=[n / 256 % 256,n % 256]:=by
 have e1:∀ x:Int,x.fdiv 256=x / 256:=fun x=>Int.fdiv_eq_ediv_of_nonneg _ (by omega)
 simp [beN,u8w,z0f,shrInt,IntKind.bits,e1];omega
theorem be4 (n:Int):beN 4 (IntKind.u64.wrap n)=b4 n:=by
 have e1:∀ x:Int,x.fdiv 256=x / 256:=fun x=>Int.fdiv_eq_ediv_of_nonneg _ (by omega)
 have e2:∀ x:Int,x.fdiv 65536=x / 65536:=fun x=>Int.fdiv_eq_ediv_of_nonneg _ (by omega)
 have e3:∀ x:Int,x.fdiv 16777216=x / 16777216:=fun x=>Int.fdiv_eq_ediv_of_nonneg _ (by omega)
 simp [beN,u8w,z0f,shrInt,IntKind.bits,b4,e1,e2,e3];omega
def Rd (esz:Nat) (τ:Store) (L:List (List AV)) (v:AV):Prop:=(∀ t,Store.sub τ t→slc t esz v=some L)∧pv .len [v]=some (.int .i64 L.length)
theorem Rd.mono {esz:Nat} {τ τ':Store} {L:List (List AV)} {v:AV} (h:Rd esz τ L v) (hs:Store.sub τ τ'):Rd esz τ' L v:=⟨fun t ht=>h.1 t (Store.sub_trans hs ht),h.2⟩
theorem Rd.sl {esz:Nat} {τ:Store} {L:List (List AV)}:Rd esz τ L (.sl esz L):=⟨fun _ _=>xy,by simp [pv,pLen]⟩
theorem Rd.nils {esz:Nat} {τ:Store}:Rd esz τ [] .nils:=⟨fun _ _=>rfl,rfl⟩
theorem Rd.os {esz g:Nat} {τ:Store} {L:List (List AV)} (h:τ g=some (.arr esz L)):Rd esz τ L (.os g esz 0 L.length):=⟨fun t ht=>zj (ht _ _ h) rfl,by simp [pv,pLen]⟩
theorem Rd.own {esz:Nat} {τ s:Store} {L:List (List AV)} {v:AV} (h:Own esz τ L v s):Rd esz s L v:=by
 rcases h with ⟨rfl,rfl⟩ | ⟨g,rfl,_,h⟩
 ·exact Rd.nils
 ·exact Rd.os h
theorem Own.appM {esz bytes:Nat} {τ s:Store} {L ys:List (List AV)} {v wv:AV} {K:AV→Store→Prop} (hsub:Store.sub τ s) (ho:Own esz τ L v s) (hw:slc s esz wv=some ys) (hsz:(L.length+ys.length)*bytes≤140737488355328)
 (h:∀ v' s',Store.sub τ s'→Own esz τ (L++ys) v' s'→K v' s'):appwp esz bytes v wv s K:=by
 rcases ho with ⟨rfl,rfl⟩ | ⟨g,rfl,hg,hs⟩
 ·refine z2t hw (by simpa using hsz) (fun h0 => ?_) (fun _ j hj => ?_)
  ·exact h _ _ hsub (.inl ⟨by simpa using h0,rfl⟩)
  ·exact h _ _ (z6 hsub (zi hsub hj)) (.inr ⟨j,rfl,zi hsub hj,Store.set_same _ _ _⟩)
 ·refine ym (zj hs rfl) hw hsz fun j hj => ?_
  have hτ:τ j=none:=zi hsub hj
  refine h _ _ (fun x q hx => ?_) (.inr ⟨j,by simp,hτ,by rw [Store.set_same]⟩)
  have hxj:x≠j:=fun e=>by subst e;rw [hτ] at hx;cases hx
  have hxg:x≠g:=fun e=>by subst e;rw [hg] at hx;cases hx
  rw [Store.set_ne _ _ hxj,Store.del_ne _ hxg];exact hsub x q hx
theorem WI.appM {τ s:Store} {id:Nat} {L:List Int} {ys:List (List AV)} {v wv:AV} {K:AV→Store→Prop} (h1:τ id=none) (h2:Store.sub τ s) (h3:s id=some (.box [v])) (h4:Own 1 τ (L.map cB) v s) (hw:slc s 1 wv=some ys) (hsz:L.length+ys.length≤100000000)
 (h:∀ v' s',s' id=some (.box [v])→Own 1 τ (L.map cB++ys) v' s'→Store.sub τ s'→K v' s'):appwp 1 1 v wv s K:=by
 obtain ⟨τ0,q1,q2,q3,q4⟩:∃ τ0,Store.sub τ τ0∧Store.sub τ0 s∧τ0 id=some (.box [v])∧Own 1 τ0 (L.map cB) v s:=by
  rcases h4 with ⟨hk,hv⟩ | ⟨g,hv,hg,hs⟩
  ·exact ⟨s,h2,Store.sub_refl _,h3,.inl ⟨hk,hv⟩⟩
  ·have hgi:¬ id=g:=fun e=>by subst e;rw [hs] at h3;cases h3
   exact ⟨s.del g,sub_del h2 hg,yf _ _,by rw [Store.del_ne _ hgi];exact h3,.inr ⟨g,hv,by simp,hs⟩⟩
 refine Own.appM (τ:=τ0) q2 q4 hw (by simp;omega) fun v' s' hs' ho' => ?_
 exact h v' s' (hs' _ _ q3) (ho'.weak q1) (Store.sub_trans q1 hs')
theorem zat {τ s:Store} {id:Nat} {L M:List Int} {wv:AV} (h:WI τ id L s) (hw:Rd 1 τ (M.map cB) wv) (hL:L.length≤10000000) (hM:M.length≤10000000):ACalls Tryz.prog 103 [.ptr id 0,wv] s (fun r s'=>r = .tup []∧WI τ id (L++M) s'):=by
 refine zf Tst.F103 (by simp [Tst.F103,Fn.mkX]) ?_
 simp only [Tst.F103,Fn.mkX,Tst.b103]
 obtain ⟨h1,h2,v,h3,h4⟩:=h
 simp only [h3,↓vcPre,↓z0,↓reduceIte,vcPost,vcStd,Nat.reduceEqDiff,reduceCtorEq,Nat.reduceAdd,Nat.reduceLeDiff,Int.reduceLT,Int.reduceLE,↓u_setN]
 refine WI.appM h1 h2 h3 h4 (hw.1 _ h2) (by simp;omega) fun v' s' g1 g2 g3 => ?_
 have hv:=g2.cell
 simp only [g1,hv.1,hv.2,↓vcPre,↓z0,↓reduceIte,vcPost,vcStd,Nat.reduceEqDiff,reduceCtorEq,Nat.reduceAdd,Nat.reduceLeDiff,Int.reduceLT,Int.reduceLE,↓u_setN]
 refine EndQ.to _ _ rfl (Store.sub_refl _) ⟨rfl,h1,z6 g3 h1,v',Store.set_same _ _ _,?_⟩
 rw [List.map_append]
 exact g2.setId g1 (fun M h=>by cases h)
theorem Rd.cases {esz:Nat} {σ:Store} {L:List (List AV)} {v:AV} (h:Rd esz σ L v):(v = .nils∧L=[])∨v = .sl esz L∨∃ g o n,v = .os g esz o n:=by
 have h1:=h.1 σ (Store.sub_refl _)
 unfold slc at h1
 split at h1
 ·exact .inl ⟨rfl,by cases h1;rfl⟩
 ·split at h1
  ·rename_i e;subst e;cases h1;exact .inr (.inl rfl)
  ·cases h1
 ·split at h1
  ·split at h1
   ·rename_i e;obtain ⟨rfl,_,_⟩:=e;exact .inr (.inr ⟨_,_,_,rfl⟩)
   ·cases h1
  ·cases h1
 ·cases h1
theorem Rd.at {esz:Nat} {τ:Store} {L:List (List AV)} {v:AV} (h:Rd esz τ L v) {k:Nat} (hk:k<L.length):∃ p,pv (.idx esz) [v,.int .i64 (k:Int)]=some p∧∀ t,Store.sub τ t→∀ n,rd t n p=takeN 0 n L[k]:=by
 rcases h.cases with ⟨rfl,h0⟩ | rfl | ⟨g,o,n,rfl⟩
 ·subst h0;simp at hk
 ·refine ⟨.ep L[k],by simp [pv,pIdx,hk],fun t _ n=>rfl⟩
 ·have hl:=h.2
  simp only [pv,pLen,Option.some.injEq,AV.int.injEq,true_and] at hl
  refine ⟨.aptr g esz (o+k) 0,by simp [pv,pIdx];omega,fun t ht m => ?_⟩
  have h1:=h.1 t ht
  unfold slc at h1
  simp only at h1
  split at h1
  ·rename_i e2 es hg
   split at h1
   ·rename_i e;obtain ⟨_,rfl,hle⟩:=e
    have h2:=Option.some.inj h1
    have h3:es[o+k]? = some L[k]:=by
     have h4:((es.drop o).take n)[k]? = some L[k]:=by rw [h2];exact List.getElem?_eq_getElem hk
     rw [List.getElem?_take_of_lt (by omega),List.getElem?_drop] at h4
     exact h4
    simp only [rd,hg,if_true,h3,Option.bind_some]
   ·cases h1
  ·cases h1
theorem s93 {σ:Store} {M:List Int} {v:AV} (hr:Rd 1 σ (M.map cB) v) (hM:M.length≤1000000000):ACalls Tryz.prog 93 [v] σ (fun r s=>s=σ∧r = .sl 1 (M.map cB)):=by
 refine zf Tst.F93 (by simp [Tst.F93,Fn.mkX]) ?_
 simp only [Tst.F93,Fn.mkX,Tst.b93]
 have hcp:∀ i,σ i=none→slc (σ.set i (.arr 1 [])) 1 v=some (M.map cB):=fun i hi=>hr.1 _ (Store.sub_set _ _ _ hi)
 rcases hr.cases with ⟨rfl,h0⟩ | rfl | ⟨g,o,n,rfl⟩
 ·simp only [↓vcPre,↓z0,↓reduceIte,vcPost,vcStd,Nat.reduceEqDiff,reduceCtorEq,Nat.reduceAdd,Nat.reduceLeDiff,Int.reduceLT,Int.reduceLE,↓u_setN]
  exact EndQ.nil1 1 σ rfl (Store.sub_refl _) ⟨rfl,by rw [h0]⟩
 ·simp only [↓vcPre,↓z0,↓reduceIte,vcPost,vcStd,Nat.reduceEqDiff,reduceCtorEq,Nat.reduceAdd,Nat.reduceLeDiff,Int.reduceLT,Int.reduceLE,↓u_setN]
  show nilqwp false (.sl 1 (M.map cB)) _
  refine z5z fun b hb => ?_
  cases b with
  | true =>
    have hl:M=[]:=by
     cases M with
     | nil=>rfl
     | cons x r=>have:=hb (by simp);cases this
    subst hl
    simp only [↓vcPre,↓z0,↓reduceIte,vcPost,vcStd,Nat.reduceEqDiff,reduceCtorEq,Nat.reduceAdd,Nat.reduceLeDiff,Int.reduceLT,Int.reduceLE,↓u_setN]
    exact EndQ.nil1 1 σ rfl (Store.sub_refl _) ⟨rfl,rfl⟩
  | false =>
    simp only [↓vcPre,↓z0,↓reduceIte,vcPost,vcStd,Nat.reduceEqDiff,reduceCtorEq,Nat.reduceAdd,Nat.reduceLeDiff,Int.reduceLT,Int.reduceLE,↓u_setN]
    refine AllocQ.i0 fun i hi => ?_
    simp only [↓vcPre,↓z0,↓reduceIte,vcPost,vcStd,Nat.reduceEqDiff,reduceCtorEq,Nat.reduceAdd,Nat.reduceLeDiff,Int.reduceLT,Int.reduceLE,↓u_setN]
    refine ym (zj (Store.set_same _ _ _) rfl) (hcp i hi) (by simp;omega) fun j hj => ?_
    simp only [List.nil_append,List.length_nil,Nat.zero_add]
    refine EndQ.frz j 1 0 _ (M.map cB) σ rfl (Store.set_same _ _ _) (by simp) (vf hi hj) ⟨rfl,?_⟩
    rw [List.drop_zero,List.take_of_length_le (by simp)]
 ·simp only [↓vcPre,↓z0,↓reduceIte,vcPost,vcStd,Nat.reduceEqDiff,reduceCtorEq,Nat.reduceAdd,Nat.reduceLeDiff,Int.reduceLT,Int.reduceLE,↓u_setN]
  refine AllocQ.i0 fun i hi => ?_
  simp only [↓vcPre,↓z0,↓reduceIte,vcPost,vcStd,Nat.reduceEqDiff,reduceCtorEq,Nat.reduceAdd,Nat.reduceLeDiff,Int.reduceLT,Int.reduceLE,↓u_setN]
  refine ym (zj (Store.set_same _ _ _) rfl) (hcp i hi) (by simp;omega) fun j hj => ?_
  simp only [List.nil_append,List.length_nil,Nat.zero_add]
  refine EndQ.frz j 1 0 _ (M.map cB) σ rfl (Store.set_same _ _ _) (by simp) (vf hi hj) ⟨rfl,?_⟩
  rw [List.drop_zero,List.take_of_length_le (by simp)]
theorem s66 {τ s:Store} {id:Nat} {L:List Int} (h:WI τ id L s) (hL:L.length≤100000000):ACalls Tryz.prog 66 [.ptr id 0] s (fun r s'=>s'=s∧r = .sl 1 (L.map cB)):=by
 refine zf Tst.F66 (by simp [Tst.F66,Fn.mkX]) ?_
 simp only [Tst.F66,Fn.mkX,Tst.b66]
 obtain ⟨h1,h2,v,h3,h4⟩:=h
 simp only [h3,↓vcPre,↓z0,↓reduceIte,vcPost,vcStd,Nat.reduceEqDiff,reduceCtorEq,Nat.reduceAdd,Nat.reduceLeDiff,Int.reduceLT,Int.reduceLE,↓u_setN]
 refine (s93 (Rd.own h4) (by omega)).Q ?_
 rintro r s' ⟨rfl,rfl⟩
 simp only [↓vcPre,↓z0,↓reduceIte,vcPost,vcStd,Nat.reduceEqDiff,reduceCtorEq,Nat.reduceAdd,Nat.reduceLeDiff,Int.reduceLT,Int.reduceLE,↓u_setN]
 exact EndQ.to _ _ rfl (Store.sub_refl _) ⟨rfl,rfl⟩
end Go.Am
namespace Go.Am
open Go.Proofs
theorem wfI {n:Int} (h:(Lit.int .i64 n).wf=true):I64 n:=by
 simp only [Lit.wf,Bool.and_eq_true,decide_eq_true_eq] at h
 exact h
end Go.Am
namespace Go.Am
theorem Sim.obj {G:Gh} {σ:Store} {w:World} (hs:Sim G σ w) {p:Nat} {o o':Obj} (hp:σ p=some o) (h:∀ b base,G.ρ p=some (b,base)→ORel G w b base o→ORel G w b base o') :
 Sim G (σ.set p o') w∧Ext G σ w G (σ.set p o') w:=by
 have hset:∀ i oi,(σ.set p o') i=some oi→∃ oj,σ i=some oj:=fun i oi h=>by
  by_cases hi:i=p
  ·subst hi;exact ⟨o,hp⟩
  ·rw [Store.set_ne _ _ hi] at h;exact ⟨oi,h⟩
 refine ⟨{ lt:=hs.lt,fin:=hs.fin,blk:=hs.blk,used := ?_,inj := ?_,apart := ?_ },{ Ext.refl G σ w with newOwn := ?_,newId := ?_ }⟩
 ·intro i oi hi
  by_cases e:i=p
  ·subst e
   rw [Store.set_same] at hi;cases hi
   obtain ⟨c,bi,h2,h3⟩:=hs.used i _ hp
   exact ⟨c,bi,h2,h c bi h2 h3⟩
  ·rw [Store.set_ne _ _ e] at hi;exact hs.used i oi hi
 ·intro i j oi oj b bi bj h1 h2
  obtain ⟨a1,k1⟩:=hset i oi h1
  obtain ⟨a2,k2⟩:=hset j oj h2
  exact hs.inj i j a1 a2 b bi bj k1 k2
 ·intro i oi b bi h1
  obtain ⟨a1,k1⟩:=hset i oi h1
  exact hs.apart i a1 b bi k1
 ·rintro c ⟨i,oi,bi,h1,h2⟩
  obtain ⟨a1,k1⟩:=hset i oi h1
  exact .inl ⟨i,a1,bi,k1,h2⟩
 ·intro i oi h1;exact .inl (hset i oi h1)
theorem WeakE.frz {e:Env} {σ:Store} {Q:Env→Store→Prop} (t:Nat) {id esz off len:Nat} {es:List (List AV)} (ht:e.get t=some (.os id esz off len)) (hσ:σ id=some (.arr esz es)) (hle:off+len≤es.length)
 (h:WeakE ((t,.sl esz ((es.drop off).take len))::e) (σ.del id) Q):WeakE e σ Q:=fun G w vs hs hv=>by
 obtain ⟨x,hx,hr⟩:=hv t _ ht
 obtain ⟨G',h1,h2,h3⟩:=xe hs hσ hle hr
 obtain ⟨G2,e2,σ2,g1,g2,g3,g4⟩:=h G' w vs h2 (fun u v hu=>by
  simp only [Env.get] at hu
  split at hu
  ·rename_i he;subst he;cases hu;exact ⟨x,hx,h3⟩
  ·obtain ⟨y,hy,hyr⟩:=hv u v hu;exact ⟨y,hy,h1.vrel hs hyr⟩)
 exact ⟨G2,e2,σ2,h1.trans g1,g2,g3,g4⟩
theorem WeakE.pure {e:Env} {σ:Store} {Q:Env→Store→Prop} (h:Q e σ):WeakE e σ Q:=fun G w vs hs hv=>⟨G,e,σ,Ext.refl _ _ _,hs,hv,h⟩
theorem WeakE.slot {e:Env} {σ:Store} {Q:Env→Store→Prop} (t:Nat) {a b:AV} (ht:e.get t=some a) (hab:∀ G w v,VRel G w a v→VRel G w b v) (h:WeakE ((t,b)::e) σ Q):WeakE e σ Q:=fun G w vs hs hv=>by
 obtain ⟨x,hx,hr⟩:=hv t _ ht
 exact h G w vs hs (fun u v hu=>by
  simp only [Env.get] at hu
  split at hu
  ·rename_i he;subst he;cases hu;exact ⟨x,hx,hab _ _ _ hr⟩
  ·exact hv u v hu)
theorem z3d (esz:Nat) (G:Gh) (w:World) (v:Value) (h:VRel G w .nils v):VRel G w (.sl esz []) v:=by
 have e:=h.of_nils;subst e;exact .sl0
theorem WeakE.nil {e:Env} {σ:Store} {Q:Env→Store→Prop} (t esz:Nat) (ht:e.get t=some .nils) (h:WeakE ((t,.sl esz [])::e) σ Q):WeakE e σ Q := .slot t ht (fun G w v h=>z3d esz G w v h) h
theorem WeakE.own {e:Env} {τ σ:Store} {Q:Env→Store→Prop} (t:Nat) {esz:Nat} {L:List (List AV)} {v:AV} (ht:e.get t=some v) (ho:Own esz τ L v σ) (hs:Store.sub τ σ)
 (h:∀ σ',Store.sub τ σ'→Store.sub σ' σ→(∀ i o,σ i=some o→(∀ n,v ≠ .os i esz 0 n)→σ' i=some o)→WeakE ((t,.sl esz L)::e) σ' Q):WeakE e σ Q:=by
 rcases ho with ⟨rfl,rfl⟩ | ⟨g,rfl,h2,h3⟩
 ·exact .nil t esz ht (h σ hs (Store.sub_refl _) fun _ _ h _=>h)
 ·refine .frz t ht h3 (by omega) ?_
  rw [List.drop_zero,List.take_length]
  refine h _ (sub_del hs h2) (fun j o hj => ?_) fun i o hi hn => ?_
  ·simp only [Store.del] at hj;split at hj
   ·cases hj
   ·exact hj
  ·rw [Store.del_ne _ (fun e=>hn _ (by rw [e]))];exact hi
theorem WeakE.frzBox {e:Env} {σ:Store} {Q:Env→Store→Prop} (p k:Nat) {id esz off len:Nat} {es:List (List AV)} {cs:List AV} (hp:σ p=some (.box cs)) (hk:cs[k]? = some (.os id esz off len)) (hσ:σ id=some (.arr esz es)) (hle:off+len≤es.length)
 (h:WeakE e ((σ.del id).set p (.box (cs.set k (.sl esz ((es.drop off).take len))))) Q):WeakE e σ Q:=fun G w vs hs hv=>by
 have hne:¬ p=id:=fun e=>by subst e;rw [hp] at hσ;cases hσ
 obtain ⟨b,base,hb,ho⟩:=hs.used p _ hp
 obtain ⟨hk',hk2⟩:=List.getElem?_eq_some_iff.1 hk
 cases ho with
 | box hh hsz hf hvv =>
   rename_i ccs ty
   have h0:=hvv k hk'
   rw [hk2] at h0
   obtain ⟨G',h1,h2,h3⟩:=xe hs hσ hle h0
   have hp':(σ.del id) p=some (.box cs):=by rw [Store.del_ne _ hne];exact hp
   obtain ⟨h4,h5⟩:=h2.obj (o' := .box (cs.set k (.sl esz ((es.drop off).take len)))) hp' (fun b' base' hb' ho'=>by
    have e1:=h1.ρ _ _ hb
    rw [hb'] at e1;cases e1
    refine .box hh (by rw [List.length_set];exact hsz) (fun c hc => ?_) (fun i hi => ?_)
    ·rcases List.mem_or_eq_of_mem_set hc with hc | rfl
     ·exact hf c hc
     ·rfl
    ·by_cases hik:i=k
     ·subst hik;rw [List.getElem_set_self];exact h3
     ·rw [List.getElem_set_ne (fun e=>hik e.symm)]
      exact h1.vrel hs (hvv i (by simpa using hi)))
   have hx:=h1.trans h5
   obtain ⟨G2,e2,σ2,g1,g2,g3,g4⟩:=h G' w vs h4 (fun u v hu=>by
    obtain ⟨y,hy,hyr⟩:=hv u v hu;exact ⟨y,hy,h1.vrel hs hyr⟩)
   exact ⟨G2,e2,σ2,hx.trans g1,g2,g3,g4⟩
theorem WeakE.cell {e:Env} {σ:Store} {Q:Env→Store→Prop} (p k:Nat) {a b:AV} {cs:List AV} (hp:σ p=some (.box cs)) (hk:cs[k]? = some a) (hab:∀ G w v,VRel G w a v→VRel G w b v) (hbf:b.flat=true)
 (h:WeakE e (σ.set p (.box (cs.set k b))) Q):WeakE e σ Q:=fun G w vs hs hv=>by
 obtain ⟨hk',hk2⟩:=List.getElem?_eq_some_iff.1 hk
 obtain ⟨h4,h5⟩:=hs.obj (o' := .box (cs.set k b)) hp (fun b' base' hb' ho'=>by
  cases ho' with
  | box hh hsz hf hvv =>
    refine .box hh (by rw [List.length_set];exact hsz) (fun c hc => ?_) (fun i hi => ?_)
    ·rcases List.mem_or_eq_of_mem_set hc with hc | rfl
     ·exact hf c hc
     ·exact hbf
    ·by_cases hik:i=k
     ·subst hik;rw [List.getElem_set_self];have:=hvv i hk';rw [hk2] at this;exact hab _ _ _ this
     ·rw [List.getElem_set_ne (fun e=>hik e.symm)]
      exact hvv i (by simpa using hi))
 obtain ⟨G2,e2,σ2,g1,g2,g3,g4⟩:=h G w vs h4 hv
 exact ⟨G2,e2,σ2,h5.trans g1,g2,g3,g4⟩
end Go.Am
namespace Go.Am
theorem WeakE.ownBox {e:Env} {τ σ:Store} {Q:Env→Store→Prop} (p k:Nat) {esz:Nat} {L:List (List AV)} {v:AV} {cs:List AV} (hp:σ p=some (.box cs)) (hk:cs[k]? = some v) (ho:Own esz τ L v σ) (hs:Store.sub τ σ) (hτ:τ p=none)
 (h:∀ σ',Store.sub τ σ'→σ' p=some (.box (cs.set k (.sl esz L)))→(∀ i o,σ i=some o→i≠p→(∀ n,v ≠ .os i esz 0 n)→σ' i=some o)→WeakE e σ' Q):WeakE e σ Q:=by
 rcases ho with ⟨rfl,rfl⟩ | ⟨g,rfl,h2,h3⟩
 ·exact .cell p k hp hk (fun G w v h=>z3d esz G w v h) rfl (h _ (z6 hs hτ) (Store.set_same _ _ _) fun i o hi hn _=>by rw [Store.set_ne _ _ hn];exact hi)
 ·refine .frzBox p k hp hk h3 (by omega) ?_
  rw [List.drop_zero,List.take_length]
  refine h _ (z6 (sub_del hs h2) hτ) (Store.set_same _ _ _) fun i o hi hn hv => ?_
  rw [Store.set_ne _ _ hn,Store.del_ne _ (fun e=>hv _ (by rw [e]))];exact hi
theorem WeakE.mono {e:Env} {σ:Store} {Q Q':Env→Store→Prop} (h:WeakE e σ Q) (hq:∀ e s,Q e s→Q' e s):WeakE e σ Q':=fun G w vs hs hv=>by
 obtain ⟨G',e',s',h1,h2,h3,h4⟩:=h G w vs hs hv
 exact ⟨G',e',s',h1,h2,h3,hq _ _ h4⟩
end Go.Am
namespace Go.Am.Tsd
open Go.Proofs Go.Am.B
def t13_34:BC := .ops [m 34 3,⟨some 35,none,.load (.ld 2 true),[.t 5]⟩,⟨some 36,none,.alloc (.mksl 2 1),[.t 35]⟩,⟨some 37,none,.loud (.app 2 32),[.t 34,.t 36]⟩,m 3 37] [1,2,3,4]
def t13_3:BC:=z [k 3 .nils] [1,2,3] (.seq (z [j 4 0] [1,2,3,4] (.block 0 (.loop [1,2,3,4] (.seq (z [m 14 4,f 15 1 1,l 16 1 15,u 17 .len 16,b 18 .lss 14 17] [1,2,3,4,18] (.cond (.t 18) .skip (.exit 0))) (.seq (.block 1 (z [f 21 1 1,l 22 1 21,m 23 4,x 24 2 22 23,⟨some 25,none,.load (.ld 2 true),[.t 24]⟩,⟨some 5,none,.alloc (.alloc [(.int .i64 0),.nils]),[]⟩,s 2 5 25] [1,2,3,4,5] (.seq (z [f 26 1 5,l 27 1 26,u 28 .len 27,c 29 .gtr 28 6] [1,2,3,4,5,29] (.cond (.t 29) (.ops [f 30 1 5,l 31 1 30,p 32 (.slice 1 false true) [.t 31,.c (.int .i64 6)],f 33 1 5,s 1 33 32] [1,2,3,4,5]) .skip)) t13_34))) (.ops [m 19 4,c 20 .add 19 1,m 4 20] [1,2,3,4])))))) (z [m 38 3,f 39 1 1,s 1 39 38] [1,2] (.seq (z [f 40 8 1,l 41 1 40,u 42 .len 41,c 43 .gtr 42 34] [1,2,43] (.cond (.t 43) (.ops [f 44 8 1,l 45 1 44,p 46 (.slice 1 false true) [.t 45,.c (.int .i64 34)],f 47 8 1,s 1 47 46] [1,2]) .skip)) (z [⟨some 48,none,.load (.ld 9 true),[.t 1]⟩,s 9 2 48] [2] .ret))))
def b13:BC:=z [⟨some 1,none,.alloc (.box),[.t 0]⟩,⟨some 2,none,.alloc (.alloc [(.int .i64 0),.nils,(.int .u32 0),(.bool false),(.int .u32 0),(.bool false),(.int .u32 0),(.bool false),.nils]),[]⟩] [1,2] (.seq (z [f 6 1 1,l 7 1 6,u 8 .len 7,c 9 .gtr 8 18] [1,2,9] (.cond (.t 9) (.ops [f 10 1 1,l 11 1 10,p 12 (.slice 2 false true) [.t 11,.c (.int .i64 18)],f 13 1 1,s 1 13 12] [1,2]) .skip)) t13_3)
def F13:Fn Tryz.prog 13:=Fn.mkX false b13 [.c 2 9 true] 49 Tryz.f13 _ Tryz.func13 (by decide) rfl Tryz.ntmps13 (by kernel_rfl) (by kernel_rfl)
end Go.Am.Tsd
