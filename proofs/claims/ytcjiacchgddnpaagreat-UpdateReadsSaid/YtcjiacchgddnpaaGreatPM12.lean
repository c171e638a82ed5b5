/- A part of the proof: a logic for calls over plain values, and the functions that the law reaches, each walked once. -/
import Derived.Test.YtcjiacchgddnpaaGreatPM11
import Derived.RangeFuncBox
import Derived.RangeFuncLeaves
import Derived.Shelf.Abstract
import Derived.WalkKit
import Derived.OwnWalkIn
import Derived.TacticsInMore
import Derived.LoopNIn
import Derived.LoopIn
import Derived.Maps.AppendAt
import Derived.Test.YtcjiacchgddnpaaGreatProg
set_option linter.unusedVariables false
set_option linter.unusedSimpArgs false
set_option linter.unusedSectionVars false
namespace Go.Am.AS
open Go.RowKit Go.Shelf Go.Proofs
set_option linter.unusedVariables false
set_option linter.unusedSimpArgs false
attribute [local go_sem] Oper.semAt_some
def upto {α:Type} (f:Nat→α) (k:Nat):List α:=(List.range k).map f
theorem z2l {α:Type} (f:Nat→α) (k:Nat):upto f (k+1)=upto f k++[f k]:=by simp [upto,List.range_succ]
theorem z4d {α:Type} (f:Nat→α) (k:Nat):(upto f k).length=k:=by simp [upto]
theorem z94 (zs:List Int):upto (fun j=>zs[j]?.getD 0) zs.length=zs:=by
 apply List.ext_getElem
 ·simp [upto]
 ·intro i h1 h2
  simp [upto,h2]
set_option maxRecDepth 100000 in
set_option maxHeartbeats 2000000 in
theorem z69 (F:Fence) (n:Nat) (h7:F.fn 147) (hro:F.round=none) (hn:1≤n) (l Bs oB n₀ b off len cap:Nat) (pa:Option Addr) (zs:List Int) (hreach:len≤9223372036854775806) (hpa:0<len→pa=some ⟨b,off,none⟩∧b<n₀) (J Jx:List Int→World→Prop)
 (hY:∀ pre x W,J pre W→pre.length<len→YieldAt F (n - 1) Tryz.prog l #[.int .u32 x] W fun e W' =>
   (e = .returned (.bool true)∧J (pre++[x]) W'∧Below n₀ W W')∨(e = .returned (.bool false)∧Jx (pre++[x]) W'))
 (W:World) (hBs:W.cell? ⟨Bs,oB,none⟩=some (.slice pa len cap)) (hc:∀ j,j<len→W.cell? ⟨b,off+j,none⟩=some (.int .u32 (zs[j]?.getD 0))) (h0:J [] W) :
 CallsIn F n Tryz.prog 147 #[.func (.yield l) #[] #[],.pointer (some ⟨Bs,oB,none⟩)] W fun e W'=>(∃ v,e = .returned v) ∧
  ((∃ ys,ys=upto (fun j=>zs[j]?.getD 0) len∧J ys W')∨(∃ pre,(∃ k,k≤len∧pre=upto (fun j=>zs[j]?.getD 0) k)∧Jx pre W')):=by
 refine callsIn_of_wp Tryz.func147 rfl h7 ?_ hro
 simp only [Tryz.ntmps147,List.size_toArray,List.length_cons,List.length_nil,Nat.reduceAdd,Nat.reduceSub,Array.replicate_succ,Array.replicate_zero,List.push_toArray,List.append_toArray,List.nil_append,List.cons_append]
 gi_wp2
 gi_loopw [7] (fun i wr=>∃ k:Nat,k≤len∧i = .int .i64 k∧J (upto (fun j=>zs[j]?.getD 0) k) wr∧Below n₀ W wr)
  (fun i _=>len - (intOf i).toNat)
 case atStart=>exact ⟨0,Nat.zero_le _,rfl,h0,Below.refl _ _⟩
 case round =>
  obtain ⟨k,hk,rfl,hJs,hnx⟩:=hrel
  have hcx:b<n₀→k<len→wr.cell? ⟨b,off+k,none⟩=some (.int .u32 (zs[k]?.getD 0)):=fun hb h=>(hnx.cell (p:=⟨b,off+k,none⟩) hb).trans (hc k h)
  by_cases hlt:k<len
  ·obtain ⟨fn,tmps,assign,body,hy,hR⟩:=hY _ (zs[k]?.getD 0) wr hJs (by rw [z4d];exact hlt)
   obtain ⟨hpa1,hb⟩:=hpa (by omega)
   subst hpa1
   have hcx':=hcx hb hlt
   gi_wp2
   refine hR.mono ?_
   rintro e W3 (⟨rfl,hJ3,hk3⟩ | ⟨rfl,hJx3⟩)
   ·gi_wp2
    go_roundw
    case rel=>exact ⟨k+1,by omega,by simp,by rw [z2l];exact hJ3,hnx.trans hk3⟩
    case measure=>simp [intOf];omega
   ·gi_wp2
    refine bodyPost_ret (results_none rfl _ _ _) rfl ?_
    exact ⟨⟨_,rfl⟩,.inr ⟨_,⟨k+1,by omega,(z2l _ _).symm⟩,hJx3⟩⟩
  ·obtain rfl:k=len:=by omega
   gi_wp2
   go_end0
   exact ⟨⟨_,rfl⟩,.inl ⟨_,rfl,hJs⟩⟩
theorem z40 (F:Fence) (n:Nat) (h7:F.fn 147) (hro:F.round=none) (hn:1≤n) (Bs oB n₀ b off cap:Nat) (pa:Option Addr) (zs:List Int) (w:World) (hreach:zs.length≤9223372036854775806) (hBs:Bs<w.heap.size) (hn₀:n₀≤w.heap.size) (hpa:0<zs.length→pa=some ⟨b,off,none⟩∧b<n₀)
 (hc0:w.cell? ⟨Bs,oB,none⟩=some (.slice pa zs.length cap)) (hc:∀ j,j<zs.length→w.cell? ⟨b,off+j,none⟩=some (.int .u32 (zs[j]?.getD 0))) :
 SeqStopsK F n Tryz.prog 147 #[.pointer (some ⟨Bs,oB,none⟩)] (fun x:Int => #[Value.int .u32 x]) (Below n₀) (fun ys=>ys=zs) (fun _=>True) zs.length w:=fun l J Jx W hW _ _ hY h0=>by
 refine (z69 F n h7 hro hn l Bs oB n₀ b off zs.length cap pa zs hreach hpa J Jx hY W ((hW.cell (p:=⟨Bs,oB,none⟩) hBs).trans hc0) (fun j hj=>(hW.cell (p:=⟨b,off+j,none⟩) (Nat.lt_of_lt_of_le (hpa (by omega)).2 hn₀)).trans (hc j hj)) h0).mono ?_
 rintro e W' ⟨hv,⟨ys,h1,h2⟩ | ⟨pre,_,h2⟩⟩
 ·exact ⟨hv,.inl ⟨ys,by rw [h1,z94],h2⟩⟩
 ·exact ⟨hv,.inr ⟨pre,trivial,h2⟩⟩
theorem zed:(Tryz.prog.info? 23).map (fun i=>(i.zero,i.size,i.bytes))=some (some (.int .u32 0),1,4):=by kernel_rfl
set_option maxRecDepth 100000 in
set_option maxHeartbeats 2000000 in
theorem z6g (F:Fence) (n:Nat) (h3:F.fn 161) (h5:F.fn 147) (hro:F.round=none) (hn:3≤n) (Bs oB b off cap:Nat) (pa:Option Addr) (zs:List Int) (hlen:zs.length*4≤140737488355328) (w:World) (hBs:Bs<w.heap.size) (hpa:0<zs.length→pa=some ⟨b,off,none⟩∧b<w.heap.size)
 (hc0:w.cell? ⟨Bs,oB,none⟩=some (.slice pa zs.length cap)) (hcs:∀ j,j<zs.length→w.cell? ⟨b,off+j,none⟩=some (.int .u32 (zs[j]?.getD 0))) :
 CallsIn F n Tryz.prog 161 #[.slice none 0 0,.func (.func 147) #[] #[.pointer (some ⟨Bs,oB,none⟩)]] w fun e W'=>∃ v,e = .returned v∧W'.ownsRow w.heap.size 23 1 v zs.length (zs.map (Value.int .u32))∧(v = .slice none 0 0↔zs=[])∧Below w.heap.size w W':=by
 have h1:1≤n:=by omega
 have hml:zs.length≤maxLen:=by unfold maxLen;omega
 obtain ⟨i0,hi,hz0,hz1,hz2⟩:=info_parts zed
 refine callsIn_of_wp_marks Tryz.func161 rfl h3 ?_ hro
 simp only [Tryz.ntmps161,List.size_toArray,List.length_cons,List.length_nil,Nat.reduceAdd,Nat.reduceSub,Array.replicate_succ,Array.replicate_zero,List.push_toArray,List.append_toArray,List.nil_append,List.cons_append]
 gi_wp2
 have bO:=Boxed.new w 24 (.slice none 0 0)
 have hB0:Below w.heap.size w (w.alloc (.cells #[.slice none 0 0] 24)):=(Below.refl _ w).alloc (Nat.le_refl _) _
 refine wpIn_rangeFunc_ownG hro h1 (gf:=147) (lb := #[.pointer (some ⟨Bs,oB,none⟩)]) rfl h5 (enters_of Tryz.func147 (by kernel_rfl) rfl)
  (z40 F (n - 1) h5 hro (by omega) Bs oB w.heap.size b off cap pa zs _ (by omega) (by simp;omega) (by simp) hpa ((hB0.cell (p:=⟨Bs,oB,none⟩) hBs).trans hc0) (fun j hj=>(hB0.cell (p:=⟨b,off+j,none⟩) (hpa (by omega)).2).trans (hcs j hj))) belowK_t (belowK_b (by simp)) (Below.refl _ _) (fun _=>rfl)
  (fun pre W=>(∃ v,Boxed W w.heap.size 24 v∧W.ownsRow w.heap.size 23 1 v pre.length (pre.map (Value.int .u32))∧(v = .slice none 0 0↔pre=[]))∧Below w.heap.size w W)
  (fun _ _ _=>False)
  (OwnFrom.and (Own.from (holdsRow_own w.heap.size w.heap.size 24 23 1 (fun pre:List Int=>pre.length) (fun pre=>pre.map (Value.int .u32)) (fun pre v=>v = .slice none 0 0↔pre=[])) _) (ownFrom_below (Nat.le_refl _) (by simp)))
  (fun _ _ _ _ _ hs _ _=>hs)
  ⟨⟨_,bO,World.ownsRow_nil _ _ _ _,by simp⟩,hB0⟩
  (fun x=>{ tmps := #[.slice none 0 0,.func (.func 147) #[] #[.pointer (some ⟨Bs,oB,none⟩)],.pointer (some ⟨w.heap.size,0,none⟩),undef,.slice none 0 0,.int .u32 x,.func (.func 147) #[] #[.pointer (some ⟨Bs,oB,none⟩)],.int .u32 x,undef,undef,undef,undef,undef],defers:=[] }) ?assign ?body ?done ?stop
 case assign =>
  intro l x W K hK
  gi_wp2
  exact hK
 case body =>
  rintro l pre x W ⟨⟨v,hv,hrow,hnil⟩,hB⟩ hlt
  have hc:=hv.cell
  gi_wp2_with (gi_at_builtin;refine wpListIn_append_own _ rfl _ _ 24 rfl w.heap.size 23 i0 (.int .u32 0) 1 4 Tryz.underlying24 hi hz0 hz1 hz2 rfl (by decide) _ _ _ rfl (hrow.alloc _) ⟨W.heap.size,0,none⟩ 1 1 [.int .u32 x] rfl rfl (cell_one_new _ _ _) (by simp [Value.oneCell']) (by omega) (by omega) (by have:=hB.size;simp;omega) ?_;intro v' w1 hown' hgrow _;obtain ⟨g',cap',rfl⟩:=ownsRow_succ hown';obtain ⟨hv1,hv2,hr2,hk2,hb2⟩:=hv.appended (by decide) hrow hB.size (Nat.le_refl _) hown' hgrow;have hc1:=hv1.cell;have hf1:=hv1.frozen)
  exact ⟨hk2.from _,hb2,⟨_,hv2,by simpa using hr2,by simp⟩,hB.trans hb2⟩
 case done =>
  rintro D ys W hD rfl ⟨⟨v,hv,hrow,hnil⟩,hB⟩ hK
  have hc:=hv.cell
  gi_wp2
  refine ⟨by simp,.inl ⟨_,_,rfl,run_takeDeferred hK,?_⟩⟩
  exact ⟨_,results_tmp rfl _ _ _,v,rfl,ownsRow_putObj hrow _ hK rfl,hnil,hB.trans (belowK_b (w:=w) (Nat.le_refl _) W D _ _ (by simp at hD;omega) hK rfl rfl)⟩
 case stop =>
  rintro D c pre W _ _ h _
  exact h.elim
theorem append_calls:Go.Am.SeqHolds Tryz.prog 161 147 .u32 23 4:=fun Bs oB b off cap pa zs w hlen hBs hpa hc0 hcs =>
 (callsIn_wide (n:=3)).1 (z6g _ 3 trivial trivial rfl (Nat.le_refl _) Bs oB b off cap pa zs hlen w hBs hpa hc0 hcs)
theorem ent:Go.Am.Ent Tryz.prog 161:=⟨_,Tryz.func161,by decide,rfl⟩
end Go.Am.AS
namespace Go.Am
open Go.Proofs Go.Sort
def cU (x:Int):List AV:=[.int .u32 x]
abbrev LessU:Prop:=∀ x y:Int,Pur Tryz.prog 171 [.int .u32 x,.int .u32 y] (.bool (decide (cfU x y<0)))
theorem zg2 (x:Int):Pur Tryz.prog 151 [.int .u32 x] (.bool false):=by
 refine zu Tst.F151 (by simp [Tst.F151,Fn.mkX]) fun σ => ?_
 simp only [Tst.F151,Fn.mkX,Tst.b151]
 simp only [↓vcPre,↓z0,↓reduceIte,vcPost,vcStd,Nat.reduceEqDiff,reduceCtorEq,Nat.reduceAdd,Nat.reduceLeDiff,Int.reduceLT,Int.reduceLE,↓u_setN]
theorem zeg:LessU:=by
 intro x y
 refine zu Tst.F171 (by simp [Tst.F171,Fn.mkX]) fun σ => ?_
 simp only [Tst.F171,Fn.mkX,Tst.b171]
 simp only [↓vcPre,↓z0,↓reduceIte,vcPost,vcStd,Nat.reduceEqDiff,reduceCtorEq,Nat.reduceAdd,Nat.reduceLeDiff,Int.reduceLT,Int.reduceLE,↓u_setN]
 refine (zg2 x).Q ?_
 simp only [↓vcPre,↓z0,↓reduceIte,vcPost,vcStd,Nat.reduceEqDiff,reduceCtorEq,Nat.reduceAdd,Nat.reduceLeDiff,Int.reduceLT,Int.reduceLE,↓u_setN]
 have e:decide (x<y)=decide (cfU x y<0):=by
  rw [Bool.eq_iff_iff,decide_eq_true_eq,decide_eq_true_eq];unfold cfU;omega
 rw [e]
theorem hU:SH Tryz.prog NU .u32:=zdz zeg z7z zbx zc9
theorem zgg {σ:Store} {b:Nat} {S:AV} {zs:List Int} (hbox:σ b=some (.box [S])) (hS:slc σ 1 S=some (zs.map cU)) (hle:zs.length≤1000000000) :
 ACalls Tryz.prog 112 [.fn 147 [.ptr b 0]] σ (fun r s=>(zs=[]∧r = .nils∧s=σ)∨(zs≠[]∧∃ g,∃ L:List Int,σ g=none∧L.Perm zs∧L.Pairwise (· ≤ ·)∧r = .os g 1 0 L.length∧s=σ.set g (.arr 1 (L.map cU)))):=by
 refine zh Tst.F112 (by simp [Tst.F112,Fn.mkX]) ?_
 simp only [Tst.F112,Fn.mkX,Tst.b112]
 simp only [↓vcPre,↓z0,↓reduceIte,vcPost,vcStd,Nat.reduceEqDiff,reduceCtorEq,Nat.reduceAdd,Nat.reduceLeDiff,Int.reduceLT,Int.reduceLE,↓u_setN]
 have hcol:ACalls Tryz.prog 145 [.fn 147 [.ptr b 0]] σ (fun a s=>(zs=[]∧a = .nils∧s=σ)∨(zs≠[]∧∃ g,σ g=none∧a = .os g 1 0 zs.length∧s=σ.set g (.arr 1 (zs.map cU)))):=by
  refine zh Tst.F145 (by simp [Tst.F145,Fn.mkX]) ?_
  simp only [Tst.F145,Fn.mkX,Tst.b145]
  simp only [↓vcPre,↓z0,↓reduceIte,vcPost,vcStd,Nat.reduceEqDiff,reduceCtorEq,Nat.reduceAdd,Nat.reduceLeDiff,Int.reduceLT,Int.reduceLE,↓u_setN]
  refine (z8q AS.ent AS.append_calls hbox hS (by omega)).Q ?_
  rintro r s (⟨hz,rfl,rfl⟩ | ⟨hz,g,hg,rfl,rfl⟩)
  ·simp only [↓vcPre,↓z0,↓reduceIte,vcPost,vcStd,Nat.reduceEqDiff,reduceCtorEq,Nat.reduceAdd,Nat.reduceLeDiff,Int.reduceLT,Int.reduceLE,↓u_setN]
   exact EndQ.to _ _ rfl (Store.sub_refl _) (.inl ⟨hz,rfl,rfl⟩)
  ·simp only [↓vcPre,↓z0,↓reduceIte,vcPost,vcStd,Nat.reduceEqDiff,reduceCtorEq,Nat.reduceAdd,Nat.reduceLeDiff,Int.reduceLT,Int.reduceLE,↓u_setN]
   exact EndQ.to _ _ rfl (Store.sub_refl _) (.inr ⟨hz,g,hg,rfl,rfl⟩)
 refine hcol.Q ?_
 rintro r s (⟨hz,rfl,rfl⟩ | ⟨hz,g,hg,rfl,rfl⟩)
 ·simp only [↓vcPre,↓z0,↓reduceIte,vcPost,vcStd,Nat.reduceEqDiff,reduceCtorEq,Nat.reduceAdd,Nat.reduceLeDiff,Int.reduceLT,Int.reduceLE,↓u_setN]
  refine (z4p hU _).Q ?_
  rintro r s ⟨rfl,rfl⟩
  simp only [↓vcPre,↓z0,↓reduceIte,vcPost,vcStd,Nat.reduceEqDiff,reduceCtorEq,Nat.reduceAdd,Nat.reduceLeDiff,Int.reduceLT,Int.reduceLE,↓u_setN]
  exact EndQ.to _ _ rfl (Store.sub_refl _) (.inl ⟨hz,rfl,rfl⟩)
 ·simp only [↓vcPre,↓z0,↓reduceIte,vcPost,vcStd,Nat.reduceEqDiff,reduceCtorEq,Nat.reduceAdd,Nat.reduceLeDiff,Int.reduceLT,Int.reduceLE,↓u_setN]
  refine (z37 hU (L:=zs) (Store.set_same _ _ _) (by omega)).Q ?_
  rintro r s ⟨rfl,L,hp,hl,rfl⟩
  simp only [↓vcPre,↓z0,↓reduceIte,vcPost,vcStd,Nat.reduceEqDiff,reduceCtorEq,Nat.reduceAdd,Nat.reduceLeDiff,Int.reduceLT,Int.reduceLE,↓u_setN]
  exact EndQ.to _ _ rfl (Store.sub_refl _) (.inr ⟨hz,g,L,hg,hp,hl,by rw [hp.length_eq],by rw [Store.set_set];rfl⟩)
theorem zgh (S:AV) (hS:S.isTup=false∧S.cells=[S]) (σ:Store):ACalls Tryz.prog 113 [S] σ (fun r s=>∃ b,σ b=none∧r = .fn 147 [.ptr b 0]∧s=σ.set b (.box [S])):=by
 refine zh Tst.F113 (by simp [Tst.F113,Fn.mkX]) ?_
 simp only [Tst.F113,Fn.mkX,Tst.b113]
 simp only [hS.1,hS.2,↓vcPre,↓z0,↓reduceIte,vcPost,vcStd,Nat.reduceEqDiff,reduceCtorEq,Nat.reduceAdd,Nat.reduceLeDiff,Int.reduceLT,Int.reduceLE,↓u_setN]
 refine AllocQ.i0 fun b hb => ?_
 simp only [↓vcPre,↓z0,↓reduceIte,vcPost,vcStd,Nat.reduceEqDiff,reduceCtorEq,Nat.reduceAdd,Nat.reduceLeDiff,Int.reduceLT,Int.reduceLE,↓u_setN]
 exact EndQ.to _ _ rfl (Store.sub_refl _) ⟨b,hb,rfl,rfl⟩
end Go.Am
namespace Go.Am
open Go.Proofs Go.Sort
theorem zer {P:Program} {n:Nat} {z:List AV} {a:AV} {σ:Store} {K:AV→Store→Prop}:lwp P (.clr n z) [a] σ K↔clrwp n z a σ (K (.tup [])):=by simp only [lwp]
def ddA:List Int→List Int
 | []=>[]
 | [a]=>[a]
 | a::b::r=>if a=b then ddA (b::r) else a::ddA (b::r)
theorem z2x (x:Int):∀ l:List Int,ddA (l++[x])=if l.getLast? = some x then ddA l else ddA l++[x]
 | []=>by simp [ddA]
 | [a]=>by
   by_cases h:a=x
   ·simp [ddA,h]
   ·simp [ddA,h]
 | a::b::r=>by
   have ih:=z2x x (b::r)
   simp only [List.cons_append] at ih ⊢
   simp only [ddA,List.getLast?_cons_cons]
   rw [ih]
   by_cases hab:a=b
   ·simp only [hab,if_true]
   ·simp only [hab,if_false]
    split <;> simp
theorem z0m {L:List Int} {k:Nat} (h1:1≤k) (h:k<L.length):ddA (L.take (k+1))=if L[k - 1]'(by omega)=L[k] then ddA (L.take k) else ddA (L.take k)++[L[k]]:=by
 have e:L.take (k+1)=L.take k++[L[k]]:=by rw [List.take_add_one,List.getElem?_eq_getElem h];rfl
 rw [e,z2x]
 have:(L.take k).getLast? = some (L[k - 1]'(by omega)):=by
  rw [List.getLast?_eq_getElem?,List.length_take,Nat.min_eq_left (by omega),List.getElem?_take_of_lt (by omega),List.getElem?_eq_getElem (by omega)]
 rw [this]
 simp
theorem zgf {σ:Store} {g:Nat} {L:List Int} (hσ:σ g=some (.arr 1 (L.map cU))) (hl:L.length<1000000000000) :
 ACalls Tryz.prog 111 [.os g 1 0 L.length] σ (fun r s=>∃ M:List Int,M.length=L.length∧M.take (ddA L).length=ddA L∧(ddA L).length≤L.length∧r = .os g 1 0 (ddA L).length∧s=σ.set g (.arr 1 (M.map cU))):=by
 refine zh Tst.F111 (by simp [Tst.F111,Fn.mkX]) ?_
 simp only [Tst.F111,Fn.mkX,Tst.b111]
 simp only [↓vcPre,↓z0,↓reduceIte,vcPost,vcStd,Nat.reduceEqDiff,reduceCtorEq,Nat.reduceAdd,Nat.reduceLeDiff,Int.reduceLT,Int.reduceLE,↓u_setN]
 refine ⟨fun c0 => ?_,fun c0 => ?_⟩
 ·have hd:ddA L=L:=by
   match L,c0 with
   | [],_=>rfl
   | [a],_=>rfl
   | a::b::r,h=>simp at h;omega
  refine EndQ.to σ _ rfl (Store.sub_refl _) ⟨L,rfl,by rw [hd];simp,by rw [hd];exact Nat.le_refl _,by rw [hd],(Store.set_self hσ).symm⟩
 ·have eS:σ=σ.set g (.arr 1 (L.map cU)):=(Store.set_self hσ).symm
  refine LoopQ.inv (S:=Nat) (fun k=>[(0,.os g 1 0 L.length),(3,.int .i64 (k:Int))]) (fun _=>σ) (fun k=>1≤k∧k≤L.length∧ddA (L.take k)=L.take k) (fun k=>L.length+1 - k) 1 rfl (Store.sub_refl _) ⟨by omega,by omega,by
   cases L with
   | nil=>rfl
   | cons a r=>simp [ddA]⟩ ?_
  rintro k ⟨h1,h2,h3⟩
  simp only [hσ,↓vcPre,↓z0,↓reduceIte,vcPost,vcStd,Nat.reduceEqDiff,reduceCtorEq,Nat.reduceAdd,Nat.reduceLeDiff,Int.reduceLT,Int.reduceLE,↓u_setN]
  have ek:IntKind.i64.wrap ((k:Int)+1)=((k+1:Nat):Int):=by rw [zb (by unfold I64;omega)];omega
  have em:IntKind.i64.wrap ((k:Int) - 1)=((k - 1:Nat):Int):=by rw [zb (by unfold I64;omega)];omega
  refine ⟨fun c1 => ?_,fun c1 => ?_⟩
  ·simp only [em,Int.toNat_natCast]
   refine ⟨by omega,by omega,by omega,by simp [cU],?_⟩
   simp only [cU,ek,em,Nat.zero_add,Option.getD_none,↓vcPre,↓z0,↓reduceIte,vcPost,vcStd,Nat.reduceEqDiff,reduceCtorEq,Nat.reduceAdd,Nat.reduceLeDiff,Int.reduceLT,Int.reduceLE,↓u_setN]
   refine ⟨by omega,fun c2 => ?_,fun c2 => ?_⟩
   ·refine ⟨by omega,?_⟩
    have hd0:ddA (L.take (k+1))=L.take k:=by
     rw [z0m h1 c1,if_pos c2.symm,h3]
    refine LoopQ.inv (S:=Nat×Nat×List Int) (fun q=>[(0,.os g 1 0 L.length),(3,.int .i64 (q.1:Int)),(4,.os g 1 k (L.length - k)),(5,.int .i64 (q.2.1:Int))]) (fun q=>σ.set g (.arr 1 (q.2.2.map cU)))
     (fun q=>1≤q.2.1∧k+q.2.1≤L.length∧1≤q.1∧q.1+1≤k+q.2.1∧q.2.2.length=L.length∧q.2.2.take q.1=ddA (L.take (k+q.2.1))∧q.1=(ddA (L.take (k+q.2.1))).length∧q.2.2.drop (k+q.2.1 - 1)=L.drop (k+q.2.1 - 1)) (fun q=>L.length+1 - q.2.1) (k,1,L) rfl (by rw [←eS];exact Store.sub_refl _)
     ⟨by simp only;omega,by simp only;omega,by simp only;omega,by simp only;omega,rfl,by simp only [hd0],by simp only [hd0,List.length_take];omega,rfl⟩ ?_
    rintro ⟨p,m,M⟩ ⟨g1,g2,g3,g4,g5,g6,g7,g8⟩
    simp only at g1 g2 g3 g4 g5 g6 g7 g8
    simp only [Nat.zero_add,↓vcPre,↓z0,↓reduceIte,vcPost,vcStd,Nat.reduceEqDiff,reduceCtorEq,Nat.reduceAdd,Nat.reduceLeDiff,Int.reduceLT,Int.reduceLE,↓u_setN]
    have en:IntKind.i64.wrap ((m:Int)+1)=((m+1:Nat):Int):=by rw [zb (by unfold I64;omega)];omega
    have ep:IntKind.i64.wrap ((p:Int)+1)=((p+1:Nat):Int):=by rw [zb (by unfold I64;omega)];omega
    have eq:IntKind.i64.wrap ((m:Int) - 1)=((m - 1:Nat):Int):=by rw [zb (by unfold I64;omega)];omega
    refine ⟨fun d1 => ?_,fun d1 => ?_⟩
    ·have hM1:M[k+m]'(by omega)=L[k+m]'(by omega):=by
      have:=congrArg (fun l:List Int=>l[1]?) g8
      simp only [List.getElem?_drop] at this
      rw [show k+m - 1+1=k+m by omega,List.getElem?_eq_getElem (by omega),List.getElem?_eq_getElem (by omega)] at this
      exact Option.some.inj this
     have hM0:M[k+(m - 1)]'(by omega)=L[k+m - 1]'(by omega):=by
      have:=congrArg (fun l:List Int=>l[0]?) g8
      simp only [List.getElem?_drop,Nat.add_zero] at this
      rw [List.getElem?_eq_getElem (by omega),List.getElem?_eq_getElem (by omega)] at this
      have h9:=Option.some.inj this
      have e9:k+(m - 1)=k+m - 1:=by omega
      simp only [e9];exact h9
     have hstep:=z0m (L:=L) (k:=k+m) (by omega) (by omega)
     simp only [eq,Int.toNat_natCast]
     refine ⟨by omega,⟨by omega,by omega⟩,by omega,by simp [cU],?_⟩
     simp only [hM1,hM0]
     simp only [cU,en,ep,Nat.zero_add,hM1,hM0,↓vcPre,↓z0,↓reduceIte,vcPost,vcStd,Nat.reduceEqDiff,reduceCtorEq,Nat.reduceAdd,Nat.reduceLeDiff,Int.reduceLT,Int.reduceLE,↓u_setN]
     refine ⟨by omega,fun e1=>⟨by omega,by omega,by omega,by omega,?_⟩,fun e1 => ?_⟩
     ·have eset:(List.map cU M).set p [AV.int IntKind.u32 (L[k+m]'(by omega))]=(M.set p (L[k+m]'(by omega))).map cU:=by rw [List.map_set];rfl
      rw [eset,Store.set_set]
      rw [if_neg (fun e=>e1 e.symm)] at hstep
      have el:(ddA (L.take (k+m+1))).length=p+1:=by rw [hstep,List.length_append,←g7];rfl
      refine NextQ.to (p+1,m+1,M.set p (L[k+m]'(by omega))) rfl (Store.sub_refl _) (by simp only;omega)
       ⟨by simp only;omega,by simp only;omega,by simp only;omega,by simp only;omega,by simp [g5],?_,?_,?_⟩
      ·simp only
       rw [show k+(m+1)=k+m+1 by omega,hstep,List.take_add_one,List.take_set,List.getElem?_set_self (by omega),←g6,List.set_eq_of_length_le (by simp;omega)]
       rfl
      ·simp only
       rw [show k+(m+1)=k+m+1 by omega,el]
      ·simp only
       rw [List.drop_set,if_pos (by omega),show k+(m+1) - 1=(k+m - 1)+1 by omega,←List.drop_drop,←List.drop_drop (l:=L),g8]
     ·rw [if_pos e1.symm] at hstep
      refine NextQ.to (p,m+1,M) rfl (Store.sub_refl _) (by simp only;omega)
       ⟨by simp only;omega,by simp only;omega,by simp only;omega,by simp only;omega,g5,?_,?_,?_⟩
      ·simp only
       rw [show k+(m+1)=k+m+1 by omega,hstep,g6]
      ·simp only
       rw [show k+(m+1)=k+m+1 by omega,hstep,g7]
      ·simp only
       rw [show k+(m+1) - 1=(k+m - 1)+1 by omega,←List.drop_drop,←List.drop_drop (l:=L),←g8]
    ·have hkm:L.take (k+m)=L:=List.take_of_length_le (by omega)
     rw [hkm] at g6 g7
     simp only [Option.getD_none,Option.getD_some,Int.toNat_natCast]
     refine ⟨by omega,?_⟩
     rw [zer]
     simp only [clrwp,Store.set_same]
     refine ⟨trivial,trivial,by simp;omega,by omega,?_⟩
     have e1:(List.map cU M).take p++(List.replicate (L.length - p) [AV.int IntKind.u32 0]++(List.map cU M).drop (p+(L.length - p)))=(M.take p++List.replicate (L.length - p) 0).map cU:=by
      rw [List.drop_eq_nil_of_le (by simp;omega)]
      simp [cU,List.map_take]
     rw [e1,Store.set_set]
     refine EndQ.to (σ.set g (.arr 1 ((M.take p++List.replicate (L.length - p) 0).map cU))) _ rfl (Store.sub_refl _) ⟨_,by simp;omega,by rw [←g7,List.take_left' (by simp;omega)];exact g6,by omega,by rw [←g7];simp,rfl⟩
   ·refine NextQ.to (k+1) rfl (Store.sub_refl _) (by omega) ⟨by omega,by omega,?_⟩
    rw [z0m h1 c1,if_neg (fun e=>c2 e.symm),h3,List.take_add_one,List.getElem?_eq_getElem c1]
    rfl
  ·have hk:L.take k=L:=List.take_of_length_le (by omega)
   rw [hk] at h3
   refine EndQ.to σ _ rfl (Store.sub_refl _) ⟨L,rfl,by rw [h3];simp,by rw [h3];exact Nat.le_refl _,by rw [h3],(Store.set_self hσ).symm⟩
end Go.Am
namespace Go.Am
open Go.Proofs Go.Sort
structure Seg where
 kind:Int
 ls:List Int
def Seg.c (s:Seg):List AV:=[.int .i64 s.kind,.sl 1 (s.ls.map cU)]
structure At where
 org:Int
 path:List Seg
 nxt:Int
 hm:Bool
 med:Int
 hp:Bool
 prf:Int
 atm:Bool
 cms:List Int
def At.c (a:At):List AV:=[.int .i64 a.org,.sl 2 (a.path.map Seg.c),.int .u32 a.nxt,.bool a.hm,.int .u32 a.med,.bool a.hp,.int .u32 a.prf,.bool a.atm,.sl 1 (a.cms.map cU)]
def Seg.ok (s:Seg):Prop:=s.ls.length≤1000000
def At.ok (a:At):Prop:=a.path.length≤1000000∧(∀ s ∈ a.path,s.ok)∧a.cms.length≤1000000
theorem zg1 (zs:List Int) (h:zs.length≤1000000000):Pur Tryz.prog 144 [.sl 1 (zs.map cU)] (.sl 1 (zs.map cU)):=by
 intro σ
 refine zh Tst.F144 (by simp [Tst.F144,Fn.mkX]) ?_
 simp only [Tst.F144,Fn.mkX,Tst.b144]
 simp only [↓vcPre,↓z0,↓reduceIte,vcPost,vcStd,Nat.reduceEqDiff,reduceCtorEq,Nat.reduceAdd,Nat.reduceLeDiff,Int.reduceLT,Int.reduceLE,↓u_setN]
 show nilqwp false (.sl 1 (zs.map cU)) _
 refine z7i fun b hb => ?_
 cases b with
 | true =>
   have hl:zs=[]:=by
    cases zs with
    | nil=>rfl
    | cons x r=>have:=hb (by simp);cases this
   subst hl
   simp only [↓vcPre,↓z0,↓reduceIte,vcPost,vcStd,Nat.reduceEqDiff,reduceCtorEq,Nat.reduceAdd,Nat.reduceLeDiff,Int.reduceLT,Int.reduceLE,↓u_setN]
   exact EndQ.nil1 1 σ rfl (Store.sub_refl _) ⟨rfl,rfl⟩
 | false =>
   simp only [↓vcPre,↓z0,↓reduceIte,vcPost,vcStd,Nat.reduceEqDiff,reduceCtorEq,Nat.reduceAdd,Nat.reduceLeDiff,Int.reduceLT,Int.reduceLE,↓u_setN]
   refine AllocQ.i0 fun i hi => ?_
   simp only [↓vcPre,↓z0,↓reduceIte,vcPost,vcStd,Nat.reduceEqDiff,reduceCtorEq,Nat.reduceAdd,Nat.reduceLeDiff,Int.reduceLT,Int.reduceLE,↓u_setN]
   refine xh (zq (Store.set_same _ _ _) rfl) (y := .sl 1 (zs.map cU)) qw (by simp;omega) fun j hj => ?_
   simp only [List.nil_append,List.length_nil,Nat.zero_add]
   refine EndQ.frz j 1 0 _ (zs.map cU) σ rfl (Store.set_same _ _ _) (by simp) (ug hi hj) ⟨rfl,?_⟩
   rw [List.drop_zero,List.take_of_length_le (by simp)]
theorem zfw (p:List Seg) (h:p.length≤1000000) (ho:∀ s ∈ p,s.ok):Pur Tryz.prog 110 [.sl 2 (p.map Seg.c)] (.sl 2 (p.map Seg.c)):=by
 intro σ
 refine zh Tst.F110 (by simp [Tst.F110,Fn.mkX]) ?_
 simp only [Tst.F110,Fn.mkX,Tst.b110]
 simp only [↓vcPre,↓z0,↓reduceIte,vcPost,vcStd,Nat.reduceEqDiff,reduceCtorEq,Nat.reduceAdd,Nat.reduceLeDiff,Int.reduceLT,Int.reduceLE,↓u_setN]
 refine LoopQ.inv (S:=Nat×AV×Store) (fun q=>[(3,q.2.1),(6,.sl 2 (p.map Seg.c)),(7,.int .i64 (p.length:Int)),(8,.int .i64 (q.1:Int))]) (fun q=>q.2.2)
  (fun q=>q.1≤p.length∧Store.sub σ q.2.2∧Own 2 σ ((p.take q.1).map Seg.c) q.2.1 q.2.2) (fun q=>p.length+1 - q.1) (0,.nils,σ) rfl (Store.sub_refl _) ⟨by simp only;omega,Store.sub_refl _,.nil⟩ ?_
 rintro ⟨k,v,s⟩ ⟨hk,hs,ho'⟩
 simp only at hk hs ho'
 simp only [↓vcPre,↓z0,↓reduceIte,vcPost,vcStd,Nat.reduceEqDiff,reduceCtorEq,Nat.reduceAdd,Nat.reduceLeDiff,Int.reduceLT,Int.reduceLE,↓u_setN]
 refine ⟨fun c1 => ?_,fun c1 => ?_⟩
 ·have ek:IntKind.i64.wrap ((k:Int)+1)=((k+1:Nat):Int):=by rw [zb (by unfold I64;omega)];omega
  refine ⟨c1,by simp [Seg.c],?_⟩
  refine AllocQ.i0 fun i hi => ?_
  simp only [Seg.c,Store.set_set,↓vcPre,↓z0,↓reduceIte,vcPost,vcStd,Nat.reduceEqDiff,reduceCtorEq,Nat.reduceAdd,Nat.reduceLeDiff,Int.reduceLT,Int.reduceLE,↓u_setN]
  refine (zg1 _ (by have:=ho _ (List.getElem_mem c1);unfold Seg.ok at this;omega)).q' ?_
  simp only [Store.set_set,↓vcPre,↓z0,↓reduceIte,vcPost,vcStd,Nat.reduceEqDiff,reduceCtorEq,Nat.reduceAdd,Nat.reduceLeDiff,Int.reduceLT,Int.reduceLE,↓u_setN]
  refine AllocQ.i1 fun j hj1 hj2 hj => ?_
  simp only [↓vcPre,↓z0,↓reduceIte,vcPost,vcStd,Nat.reduceEqDiff,reduceCtorEq,Nat.reduceAdd,Nat.reduceLeDiff,Int.reduceLT,Int.reduceLE,↓u_setN]
  refine Own.app (τ:=σ) (L:=(p.take k).map Seg.c) (Store.sub_trans hs (zp hi hj hj1)) (ho'.mono (zp hi hj hj1)) (zq (Store.set_same _ _ _) rfl) (by simp;omega) fun v' s' hs' ho'' => ?_
  rw [ek]
  refine NextQ.to (k+1,v',s') rfl (Store.sub_refl _) (by simp only;omega) ⟨by simp only;omega,hs',?_⟩
  simp only [List.take_add_one,List.getElem?_eq_getElem c1,Option.toList_some,List.map_append,List.map_cons,List.map_nil]
  exact ho''
 ·have hkl:p.take k=p:=List.take_of_length_le (by omega)
  rw [hkl] at ho'
  exact EndQ.own rfl ho' hs ⟨rfl,rfl⟩
end Go.Am
namespace Go.Am.Tsc
open Go.Proofs Go.Am.B
def t72_15:BC:=z [f 15 8 1,l 16 1 15,g 17 113 [.t 16],g 18 112 [.t 17],g 19 111 [.t 18],f 20 8 1,s 1 20 19] [1,2] (z [⟨some 21,none,.load (.ld 9 true),[.t 1]⟩,s 9 2 21] [2] .ret)
def b72:BC:=z [⟨some 1,none,.alloc (.box),[.t 0]⟩,⟨some 2,none,.alloc (.alloc [(.int .i64 0),.nils,(.int .u32 0),(.bool false),(.int .u32 0),(.bool false),(.int .u32 0),(.bool false),.nils]),[]⟩] [1,2] (z [f 3 1 1,l 4 1 3,g 5 110 [.t 4],f 6 1 1,s 1 6 5] [1,2] (.seq (z [f 7 3 1,l 8 1 7,u 9 .not 8] [1,2,9] (.cond (.t 9) (.ops [f 10 4 1,⟨none,none,.loud (.st 1),[.t 10,.c (.int .u32 0)]⟩] [1,2]) .skip)) (.seq (z [f 11 5 1,l 12 1 11,u 13 .not 12] [1,2,13] (.cond (.t 13) (.ops [f 14 6 1,⟨none,none,.loud (.st 1),[.t 14,.c (.int .u32 0)]⟩] [1,2]) .skip)) t72_15)))
def F72:Fn Tryz.prog 72:=Fn.mkX false b72 [.c 2 9 true] 22 Tryz.f72 _ Tryz.func72 (by decide) rfl Tryz.ntmps72 (by kernel_rfl) (by kernel_rfl)
end Go.Am.Tsc
namespace Go.Am
open Go.Proofs Go.Sort
def leI (a b:Int):Bool:=decide (a≤b)
def canonC (l:List Int):List Int:=ddA (l.mergeSort leI)
theorem z0t {L zs:List Int} (hp:L.Perm zs) (hs:L.Pairwise (· ≤ ·)):L=zs.mergeSort leI:=by
 have h1:(zs.mergeSort leI).Pairwise (· ≤ ·):=by
  have:=List.pairwise_mergeSort (le:=leI) (fun a b c h1 h2=>by simp only [leI,decide_eq_true_eq] at *;omega) (fun a b=>by simp only [leI,Bool.or_eq_true,decide_eq_true_eq];omega) zs
  exact this.imp fun {a b} h=>by simpa [leI] using h
 refine List.Perm.eq_of_pairwise (le:=(· ≤ ·)) (fun a b _ _ h1 h2=>by omega) hs h1 (hp.trans (List.mergeSort_perm zs leI).symm)
theorem z6i {L zs:List Int} (hp:L.Perm zs) (hs:L.Pairwise (· ≤ ·)):ddA L=canonC zs:=by rw [canonC,←z0t hp hs]
theorem z4k:∀ l:List Int,(ddA l).length≤l.length
 | []=>by simp [ddA]
 | [a]=>by simp [ddA]
 | a::b::r=>by
   have:=z4k (b::r)
   simp only [ddA]
   split <;> simp at * <;> omega
theorem uo (l:List Int):(canonC l).length≤l.length:=by
 have:=z4k (l.mergeSort leI)
 rw [List.length_mergeSort] at this
 exact this
def canonA (a:At):At:={ a with med:=if a.hm then a.med else 0,prf:=if a.hp then a.prf else 0,cms:=canonC a.cms }
def At.cO (a:At) (v:AV):List AV:=[.int .i64 a.org,.sl 2 (a.path.map Seg.c),.int .u32 a.nxt,.bool a.hm,.int .u32 a.med,.bool a.hp,.int .u32 a.prf,.bool a.atm,v]
theorem zek (σ:Store):ACalls Tryz.prog 111 [.nils] σ (fun r s=>r = .nils∧s=σ):=by
 refine zh Tst.F111 (by simp [Tst.F111,Fn.mkX]) ?_
 simp only [Tst.F111,Fn.mkX,Tst.b111]
 simp only [↓vcPre,↓z0,↓reduceIte,vcPost,vcStd,Nat.reduceEqDiff,reduceCtorEq,Nat.reduceAdd,Nat.reduceLeDiff,Int.reduceLT,Int.reduceLE,↓u_setN]
 exact EndQ.to _ _ rfl (Store.sub_refl _) ⟨rfl,rfl⟩
theorem z3w {σ τ:Store} {g:Nat} {o:Obj} (h:Store.sub σ τ):Store.sub (σ.set g o) (τ.set g o):=fun i q hi=>by
 simp only [Store.set] at hi ⊢
 split at hi
 ·rename_i e;rw [if_pos e];exact hi
 ·rename_i e;rw [if_neg e];exact h i q hi
theorem z5y (a:At) (hc:a.cms.length≤1000000) {σ t:Store} {b r:Nat} {z:List AV} {n rr:Env→Store→Prop} {x:Nat→Env→Store→Prop} (hb:t b=some (.box a.c)) (hr:t r=some (.box z)) (hz:z.length=9) (hbr:¬ b=r) (hsub:Store.sub σ t) (hσb:σ b=none) (hσr:σ r=none)
 (h0:∀ s,canonC a.cms=[]→Store.sub σ s→s r=some (.box (({ a with cms:=[] }:At).cO .nils))→rr [(2,.ptr r 0)] s)
 (h1:∀ s g,∀ M:List Int,σ g=none→(canonC a.cms).length≤M.length→M.take (canonC a.cms).length=canonC a.cms→Store.sub (σ.set g (.arr 1 (M.map cU))) s→s r=some (.box (({ a with cms:=[] }:At).cO (.os g 1 0 (canonC a.cms).length)))→rr [(2,.ptr r 0)] s) :
 bwp Tryz.prog Tsc.t72_15 [(1,.ptr b 0),(2,.ptr r 0)] t n rr x:=by
 simp only [Tsc.t72_15]
 have hrb:¬ r=b:=fun e=>hbr e.symm
 simp only [hb,At.c,↓vcPre,↓z0,↓reduceIte,vcPost,vcStd,Nat.reduceEqDiff,reduceCtorEq,Nat.reduceAdd,Nat.reduceLeDiff,Int.reduceLT,Int.reduceLE,↓u_setN]
 refine (zgh _ ⟨rfl,rfl⟩ t).Q ?_
 rintro f s ⟨i,hi,rfl,rfl⟩
 have hib:¬ b=i:=fun e=>by subst e;rw [hb] at hi;cases hi
 have hir:¬ r=i:=fun e=>by subst e;rw [hr] at hi;cases hi
 simp only [hib,hir,↓vcPre,↓z0,↓reduceIte,vcPost,vcStd,Nat.reduceEqDiff,reduceCtorEq,Nat.reduceAdd,Nat.reduceLeDiff,Int.reduceLT,Int.reduceLE,↓u_setN]
 refine (zgg (Store.set_same _ _ _) (zs:=a.cms) (by simp [slc]) (by omega)).Q ?_
 rintro f s (⟨hz0,rfl,rfl⟩ | ⟨hz0,g,L,hg,hp,hl,rfl,rfl⟩)
 ·simp only [hib,hir,↓vcPre,↓z0,↓reduceIte,vcPost,vcStd,Nat.reduceEqDiff,reduceCtorEq,Nat.reduceAdd,Nat.reduceLeDiff,Int.reduceLT,Int.reduceLE,↓u_setN]
  refine (zek _).Q ?_
  rintro f s ⟨rfl,rfl⟩
  simp only [hib,hir,hb,hr,hbr,hrb,At.c,hz,↓vcPre,↓z0,↓reduceIte,vcPost,vcStd,Nat.reduceEqDiff,reduceCtorEq,Nat.reduceAdd,Nat.reduceLeDiff,Int.reduceLT,Int.reduceLE,↓u_setN]
  rw [zy _ _ (by simp [hz]),ym]
  refine h0 _ (by rw [hz0];simp [canonC,ddA]) (z8 (z8 (z8 hsub (zj hsub hi)) hσb) hσr) (Store.set_same _ _ _)
 ·have hgb:¬ b=g:=fun e=>by subst e;rw [Store.set_ne _ _ hib,hb] at hg;cases hg
  have hgr:¬ r=g:=fun e=>by subst e;rw [Store.set_ne _ _ hir,hr] at hg;cases hg
  simp only [hib,hir,↓vcPre,↓z0,↓reduceIte,vcPost,vcStd,Nat.reduceEqDiff,reduceCtorEq,Nat.reduceAdd,Nat.reduceLeDiff,Int.reduceLT,Int.reduceLE,↓u_setN]
  refine (zgf (Store.set_same _ _ _) (by rw [hp.length_eq];omega)).Q ?_
  rintro f s ⟨M,m1,m2,m3,rfl,rfl⟩
  simp only [hib,hir,hb,hr,hbr,hrb,hgb,hgr,At.c,hz,↓vcPre,↓z0,↓reduceIte,vcPost,vcStd,Nat.reduceEqDiff,reduceCtorEq,Nat.reduceAdd,Nat.reduceLeDiff,Int.reduceLT,Int.reduceLE,↓u_setN]
  rw [zy _ _ (by simp [hz]),ym]
  have hcn:=z6i hp hl
  have hσi:=zj hsub hi
  have hσg:σ g=none:=by
   cases h:σ g with
   | none=>rfl
   | some o=>rw [z8 hsub hσi g o h] at hg;cases hg
  rw [hcn] at m2 m3 ⊢
  refine h1 _ g M hσg (by omega) m2 ?_ (Store.set_same _ _ _)
  rw [Store.set_set]
  exact z8 (z8 (z3w (z8 hsub hσi)) (by rw [Store.set_ne _ _ hgb];exact hσb)) (by rw [Store.set_ne _ _ hgr];exact hσr)
theorem s72 (a:At) (h:a.ok) (σ:Store):ACalls Tryz.prog 72 [.agg a.c] σ (fun r s=>(canonC a.cms=[]∧r = .agg ((canonA a).cO .nils)∧s=σ) ∨
 ∃ g,∃ M:List Int,σ g=none∧(canonC a.cms).length≤M.length∧M.take (canonC a.cms).length=canonC a.cms∧r = .agg ((canonA a).cO (.os g 1 0 (canonC a.cms).length))∧s=σ.set g (.arr 1 (M.map cU))):=by
 refine zh Tsc.F72 (by simp [Tsc.F72,Fn.mkX]) ?_
 simp only [Tsc.F72,Fn.mkX,Tsc.b72]
 simp only [At.c,↓vcPre,↓z0,↓reduceIte,vcPost,vcStd,Nat.reduceEqDiff,reduceCtorEq,Nat.reduceAdd,Nat.reduceLeDiff,Int.reduceLT,Int.reduceLE,↓u_setN]
 refine AllocQ.i0 fun b hb => ?_
 simp only [At.c,↓vcPre,↓z0,↓reduceIte,vcPost,vcStd,Nat.reduceEqDiff,reduceCtorEq,Nat.reduceAdd,Nat.reduceLeDiff,Int.reduceLT,Int.reduceLE,↓u_setN]
 refine AllocQ.i1 fun r hr1 hr2 hr => ?_
 simp only [hr1,hr2,↓vcPre,↓z0,↓reduceIte,vcPost,vcStd,Nat.reduceEqDiff,reduceCtorEq,Nat.reduceAdd,Nat.reduceLeDiff,Int.reduceLT,Int.reduceLE,↓u_setN]
 refine (zfw a.path h.1 h.2.1).Q ?_
 have hsb:∀ X Y Z:Obj,Store.sub σ (((σ.set b X).set r Y).set b Z):=fun X Y Z=>z8 (zp hb hr hr1) hb
 cases hm:a.hm <;> cases hp:a.hp
 all_goals
  simp only [hr1,hr2,Store.set_set,hm,hp,↓vcPre,↓z0,↓reduceIte,vcPost,vcStd,Nat.reduceEqDiff,reduceCtorEq,Nat.reduceAdd,Nat.reduceLeDiff,Int.reduceLT,Int.reduceLE,↓u_setN]
  refine z5y { a with med:=if a.hm then a.med else 0,prf:=if a.hp then a.prf else 0 } h.2.2 (by simp [At.c,hm,hp]) (by rw [Store.set_ne _ _ hr1,Store.set_same]) rfl hr2 (hsb _ _ _) hb hr ?_ ?_
  ·intro s hcz hss hsr
   refine EndQ.to σ (.agg ((canonA a).cO .nils)) ?_ hss (.inl ⟨hcz,rfl,rfl⟩)
   show Env.res [(2,AV.ptr r 0)] s [RS.c 2 9 true]=_
   simp only [hsr,At.cO,canonA,hm,hp,↓vcPre,↓z0,↓reduceIte,vcPost,vcStd,Nat.reduceEqDiff,reduceCtorEq,Nat.reduceAdd,Nat.reduceLeDiff,Int.reduceLT,Int.reduceLE,↓u_setN]
  ·intro s g M m1 m2 m3 m4 hsr
   refine EndQ.to (σ.set g (.arr 1 (M.map cU))) (.agg ((canonA a).cO (.os g 1 0 (canonC a.cms).length))) ?_ m4 (.inr ⟨g,M,m1,m2,m3,rfl,rfl⟩)
   show Env.res [(2,AV.ptr r 0)] s [RS.c 2 9 true]=_
   simp only [hsr,At.cO,canonA,hm,hp,↓vcPre,↓z0,↓reduceIte,vcPost,vcStd,Nat.reduceEqDiff,reduceCtorEq,Nat.reduceAdd,Nat.reduceLeDiff,Int.reduceLT,Int.reduceLE,↓u_setN]
theorem c72 (a:At) (h:a.ok):Pur Tryz.prog 72 [.agg a.c] (.agg (canonA a).c):=by
 intro σ
 refine (s72 a h σ).weakRes ?_
 rintro r s (⟨hz,rfl,rfl⟩ | ⟨g,M,m1,m2,m3,rfl,rfl⟩)
 ·refine Weak.agg (WeakL.nil 8 1 rfl (WeakL.pure ⟨?_,rfl,?_⟩))
  ·intro c hc
   simp [At.cO] at hc
   rcases hc with rfl | rfl | rfl | rfl | rfl | rfl | rfl | rfl | rfl <;> rfl
  ·simp [At.cO,At.c,canonA,hz]
 ·refine Weak.agg (WeakL.freeze 8 rfl (Store.set_same _ _ _) (by simpa using m2) (WeakL.forget (fun i o hi => ?_) (WeakL.pure ⟨?_,rfl,?_⟩)))
  ·have:i≠g:=fun e=>by subst e;rw [m1] at hi;cases hi
   rw [Store.del_ne _ this,Store.set_ne _ _ this];exact hi
  ·intro c hc
   simp [At.cO] at hc
   rcases hc with rfl | rfl | rfl | rfl | rfl | rfl | rfl | rfl | rfl <;> rfl
  ·simp only [At.cO,At.c,canonA,List.set_cons_succ,List.set_cons_zero,List.drop_zero,←List.map_take,m3]
end Go.Am
namespace Go.Am
open Go.Proofs Go.Sort
def truthF (b:Bool):Int:=if b then 1 else 0
def orL:List Int→Int
 | []=>0
 | x::r=>if x=0 then orL r else x
def cI (x:Int):List AV:=[.int .i64 x]
def cmpG {α:Type} (f:α→α→Int):List α→List α→Int
 | [],[]=>0
 | [],_::_ => -1
 | _::_,[]=>1
 | a::r,b::s=>if f a b=0 then cmpG f r s else f a b
def cmpSeg (a b:Seg):Int:=orL [cmpI a.kind b.kind,cmpI a.ls.length b.ls.length,cmpG cmpI a.ls b.ls]
def cmpPath (a b:List Seg):Int:=cmpG cmpSeg a b
def cmpAs (a b:At):Int:=orL [cmpI a.org b.org,cmpPath a.path b.path,cmpI a.nxt b.nxt,IntKind.i64.wrap (truthF a.hm - truthF b.hm),cmpI a.med b.med,IntKind.i64.wrap (truthF a.hp - truthF b.hp),cmpI a.prf b.prf,IntKind.i64.wrap (truthF a.atm - truthF b.atm),cmpG cmpI a.cms b.cms]
theorem vr {a:At} (h:a.ok):(canonA a).ok:=⟨h.1,h.2.1,Nat.le_trans (uo _) h.2.2⟩
end Go.Am
namespace Go.Am
open Go.Proofs Go.Sort
theorem cmpI_z {x y:Int}:cmpI x y=0↔x=y:=y7 x y
theorem z0y {α:Type} {f:α→α→Int}:∀ (l m:List α),(∀ a ∈ l,∀ b ∈ m,f a b=0↔a=b)→(cmpG f l m=0↔l=m)
 | [],[],_=>by simp [cmpG]
 | [],_::_,_=>by simp [cmpG]
 | _::_,[],_=>by simp [cmpG]
 | a::r,b::s,h=>by
   have h1:=h a (by simp) b (by simp)
   have h2:=z0y r s (fun x hx y hy=>h x (by simp [hx]) y (by simp [hy]))
   simp only [cmpG]
   split
   ·rename_i h0
    rw [h2,h1.1 h0];simp
   ·rename_i h0
    constructor
    ·intro h3;exact absurd h3 h0
    ·intro h3;exact absurd (h1.2 (List.cons.inj h3).1) h0
theorem z5p:∀ (l:List Int),orL l=0↔∀ x ∈ l,x=0
 | []=>by simp [orL]
 | x::r=>by
   have:=z5p r
   simp only [orL]
   split
   ·rename_i h;rw [this];simp [h]
   ·rename_i h;simp [h]
theorem z2w {a b:Seg}:cmpSeg a b=0↔a=b:=by
 unfold cmpSeg
 rw [z5p]
 simp only [List.mem_cons,List.not_mem_nil,or_false,forall_eq_or_imp,forall_eq]
 rw [cmpI_z,cmpI_z,z0y _ _ (fun _ _ _ _=>cmpI_z)]
 constructor
 ·rintro ⟨h1,_,h3⟩
  cases a;cases b;simp_all
 ·rintro rfl;exact ⟨rfl,rfl,rfl⟩
theorem cmpPath_z {a b:List Seg}:cmpPath a b=0↔a=b:=z0y _ _ fun _ _ _ _=>z2w
theorem yp {a b:Bool}:IntKind.i64.wrap (truthF a - truthF b)=0↔a=b:=by
 cases a <;> cases b <;> decide
theorem z9i {a b:At}:cmpAs a b=0↔a=b:=by
 unfold cmpAs
 rw [z5p]
 simp only [List.mem_cons,List.not_mem_nil,or_false,forall_eq_or_imp,forall_eq]
 rw [cmpI_z,cmpPath_z,cmpI_z,yp,cmpI_z,yp,cmpI_z,yp,z0y _ _ (fun _ _ _ _=>cmpI_z)]
 constructor
 ·rintro ⟨h1,h2,h3,h4,h5,h6,h7,h8,h9⟩
  cases a;cases b;simp_all
 ·rintro rfl;exact ⟨rfl,rfl,rfl,rfl,rfl,rfl,rfl,rfl,rfl⟩
instance:DecidableEq Seg:=fun a b=>decidable_of_iff (cmpSeg a b=0) z2w
instance:DecidableEq At:=fun a b=>decidable_of_iff (cmpAs a b=0) z9i
def Inc (l:List Int):Prop:=l.Pairwise (· < ·)
theorem z1o (x:Int):∀ l:List Int,x ∈ ddA l↔x ∈ l
 | []=>by simp [ddA]
 | [a]=>by simp [ddA]
 | a::b::r=>by
   have:=z1o x (b::r)
   simp only [ddA]
   split
   ·rename_i h;subst h;rw [this];simp
   ·simp only [List.mem_cons] at *;rw [this]
theorem z4j:∀ l:List Int,l.Pairwise (· ≤ ·)→Inc (ddA l)
 | [],_ => .nil
 | [a],_=>by simp [ddA,Inc]
 | a::b::r,h=>by
   obtain ⟨h1,h2⟩:=List.pairwise_cons.1 h
   have ih:=z4j (b::r) h2
   simp only [ddA]
   split
   ·exact ih
   ·rename_i hab
    refine List.pairwise_cons.2 ⟨fun x hx => ?_,ih⟩
    have hx':=(z1o x (b::r)).1 hx
    have h3:=h1 b (by simp)
    rcases List.mem_cons.1 hx' with rfl | hx''
    ·omega
    ·have h4:=(List.pairwise_cons.1 h2).1 x hx''
     omega
theorem z57 {l:List Int} {x:Int}:x ∈ canonC l↔x ∈ l:=by
 rw [canonC,z1o,(List.mergeSort_perm l leI).mem_iff]
theorem z56 (l:List Int):Inc (canonC l):=z4j _ (by
 have:=List.pairwise_mergeSort (le:=leI) (fun a b c h1 h2=>by simp only [leI,decide_eq_true_eq] at *;omega) (fun a b=>by simp only [leI,Bool.or_eq_true,decide_eq_true_eq];omega) l
 exact this.imp fun {a b} h=>by simpa [leI] using h)
theorem za0 {l m:List Int} (hl:Inc l) (hm:Inc m) (h:∀ x,x ∈ l↔x ∈ m):l=m:=by
 have nd:∀ l:List Int,Inc l→l.Nodup:=fun l h=>h.imp fun {a b} h e=>by omega
 refine List.Perm.eq_of_pairwise (le:=(· < ·)) (fun a b _ _ h1 h2=>by omega) hl hm ((List.perm_ext_iff_of_nodup (nd l hl) (nd m hm)).2 h)
end Go.Am
namespace Go.Am
structure PO {α:Type} (f:α→α→Int):Prop where
 anti:∀ a b,f b a<0↔0<f a b
 tr:∀ a b c,f a b≤0→f b c≤0→f a c≤0
theorem PO.z {α:Type} {f:α→α→Int} (h:PO f) {a b:α} (e:f a b=0):f b a=0:=by
 have h1:=h.anti a b;have h2:=h.anti b a;omega
theorem PO.lt {α:Type} {f:α→α→Int} (h:PO f) {a b c:α} (h1:f a b<0) (h2:f b c≤0):f a c<0:=by
 apply Classical.byContradiction;intro hn
 have a1:=h.anti a c;have a2:=h.anti c a;have a3:=h.anti a b;have a4:=h.anti b a
 have:=h.tr b c a h2 (by omega)
 omega
theorem PO.lt' {α:Type} {f:α→α→Int} (h:PO f) {a b c:α} (h1:f a b≤0) (h2:f b c<0):f a c<0:=by
 apply Classical.byContradiction;intro hn
 have a1:=h.anti a c;have a2:=h.anti c a;have a3:=h.anti b c;have a4:=h.anti c b
 have:=h.tr c a b (by omega) h1
 omega
def lex {α:Type} (f g:α→α→Int) (a b:α):Int:=if f a b=0 then g a b else f a b
theorem PO.lex {α:Type} {f g:α→α→Int} (hf:PO f) (hg:PO g):PO (lex f g) where
 anti a b:=by
  have h1:=hf.anti a b;have h2:=hf.anti b a;have h3:=hg.anti a b
  unfold Am.lex
  by_cases e:f a b=0
  ·rw [if_pos e,if_pos (hf.z e)];exact h3
  ·rw [if_neg e,if_neg (fun e'=>e (hf.z e'))];exact h1
 tr a b c:=by
  unfold Am.lex
  intro h1 h2
  by_cases e1:f a b=0 <;> by_cases e2:f b c=0
  ·rw [if_pos e1] at h1;rw [if_pos e2] at h2
   have h3:=hf.tr a b c (by omega) (by omega)
   have h4:=hf.tr c b a (by rw [hf.z e2];omega) (by rw [hf.z e1];omega)
   have h5:=hf.anti a c;have h6:=hf.anti c a
   rw [if_pos (by omega)];exact hg.tr a b c h1 h2
  ·rw [if_neg e2] at h2
   have:=hf.lt' (a:=a) (b:=b) (c:=c) (by omega) (by omega)
   rw [if_neg (by omega)];omega
  ·rw [if_neg e1] at h1
   have:=hf.lt (a:=a) (b:=b) (c:=c) (by omega) (by omega)
   rw [if_neg (by omega)];omega
  ·rw [if_neg e1] at h1;rw [if_neg e2] at h2
   have:=hf.lt (a:=a) (b:=b) (c:=c) (by omega) (by omega)
   rw [if_neg (by omega)];omega
theorem PO.key {α β:Type} {f:β→β→Int} (k:α→β) (h:PO f):PO fun a b=>f (k a) (k b):=⟨fun _ _=>h.anti _ _,fun _ _ _=>h.tr _ _ _⟩
theorem PO.cmpI:PO cmpI:=⟨fun a b=>by unfold Am.cmpI;split <;> split <;> (try split) <;> (try split) <;> omega,fun a b c=>by unfold Am.cmpI;split <;> split <;> (try split) <;> (try split) <;> (try split) <;> omega⟩
theorem PO.truth:PO fun a b:Bool=>IntKind.i64.wrap (truthF a - truthF b):=⟨by decide,by decide⟩
theorem PO.zero {α:Type}:PO fun _ _:α=>(0:Int):=⟨fun _ _=>by omega,fun _ _ _ _ _=>by omega⟩
theorem PO.list {α:Type} {f:α→α→Int} (h:PO f):PO (cmpG f) where
 anti:=by
  intro a
  induction a with
  | nil=>intro b;cases b <;> simp [cmpG]
  | cons x r ih =>
    intro b
    cases b with
    | nil=>simp [cmpG]
    | cons y s =>
      have h1:=h.anti x y;have h2:=h.anti y x
      simp only [cmpG]
      by_cases e:f x y=0
      ·rw [if_pos e,if_pos (h.z e)];exact ih s
      ·rw [if_neg e,if_neg (fun e'=>e (h.z e'))];exact h1
 tr:=by
  intro a
  induction a with
  | nil=>intro b c _ _;cases c <;> simp [cmpG]
  | cons x r ih =>
    intro b c
    cases b with
    | nil=>intro h1;simp [cmpG] at h1
    | cons y s =>
      cases c with
      | nil=>intro _ h2;simp [cmpG] at h2
      | cons z t =>
        simp only [cmpG]
        intro h1 h2
        by_cases e1:f x y=0 <;> by_cases e2:f y z=0
        ·rw [if_pos e1] at h1;rw [if_pos e2] at h2
         have h3:=h.tr x y z (by omega) (by omega)
         have h4:=h.tr z y x (by rw [h.z e2];omega) (by rw [h.z e1];omega)
         have h5:=h.anti x z;have h6:=h.anti z x
         rw [if_pos (by omega)];exact ih s t h1 h2
        ·rw [if_neg e2] at h2
         have:=h.lt' (a:=x) (b:=y) (c:=z) (by omega) (by omega)
         rw [if_neg (by omega)];omega
        ·rw [if_neg e1] at h1
         have:=h.lt (a:=x) (b:=y) (c:=z) (by omega) (by omega)
         rw [if_neg (by omega)];omega
        ·rw [if_neg e1] at h1;rw [if_neg e2] at h2
         have:=h.lt (a:=x) (b:=y) (c:=z) (by omega) (by omega)
         rw [if_neg (by omega)];omega
theorem PO.congr {α:Type} {f g:α→α→Int} (h:PO f) (e:∀ a b,g a b=f a b):PO g:=⟨fun a b=>by rw [e,e];exact h.anti a b,fun a b c=>by rw [e,e,e];exact h.tr a b c⟩
theorem PO.seg:PO cmpSeg:=by
 refine (PO.lex (PO.key Seg.kind PO.cmpI) (PO.lex (PO.key (fun s:Seg=>(s.ls.length:Int)) PO.cmpI) (PO.lex (PO.key Seg.ls PO.cmpI.list) PO.zero))).congr fun a b => ?_
 simp only [cmpSeg,orL];rfl
theorem PO.path:PO cmpPath:=PO.seg.list
theorem PO.at:PO cmpAs:=by
 refine (PO.lex (PO.key At.org PO.cmpI) (PO.lex (PO.key At.path PO.path) (PO.lex (PO.key At.nxt PO.cmpI) (PO.lex (PO.key At.hm PO.truth) (PO.lex (PO.key At.med PO.cmpI) (PO.lex (PO.key At.hp PO.truth) (PO.lex (PO.key At.prf PO.cmpI) (PO.lex (PO.key At.atm PO.truth) (PO.lex (PO.key At.cms PO.cmpI.list) PO.zero))))))))).congr fun a b => ?_
 simp only [cmpAs,orL];rfl
end Go.Am
namespace Go.Am
theorem yd (s:Store) (i:Nat):Store.sub (s.del i) s:=fun j o hj=>by
 by_cases e:j=i
 ·subst e;simp at hj
 ·rw [Store.del_ne _ e] at hj;exact hj
end Go.Am
namespace Go.Am
open Go.Proofs Go.Sort
def zCells:List AV:=[.int .i64 0,.nils,.int .u32 0,.bool false,.int .u32 0,.bool false,.int .u32 0,.bool false,.nils]
def zeroAt:At:=⟨0,[],0,false,0,false,0,false,[]⟩
end Go.Am
namespace Go.Am
def b4 (n:Int):List Int:=[n / 16777216 % 256,n / 65536 % 256,n / 256 % 256,n % 256]
def n4 (a b c d:Int):Int:=((a*256+b)*256+c)*256+d
def U8s (l:List Int):Prop:=∀ x ∈ l,0≤x∧x<256
def U32s (l:List Int):Prop:=∀ x ∈ l,0≤x∧x<4294967296
theorem z0w (n:Int):U8s (b4 n):=by
 intro x hx
 simp only [b4,List.mem_cons,List.not_mem_nil,or_false] at hx
 omega
theorem U8s.append {l m:List Int} (h:U8s l) (h':U8s m):U8s (l++m):=fun x hx=>(List.mem_append.1 hx).elim (h x) (h' x)
theorem U8s.take {l:List Int} (h:U8s l) (n:Nat):U8s (l.take n):=fun x hx=>h x (List.mem_of_mem_take hx)
theorem U8s.drop {l:List Int} (h:U8s l) (n:Nat):U8s (l.drop n):=fun x hx=>h x (List.mem_of_mem_drop hx)
def words:Nat→List Int→List Int
 | n+1,a::b::c::d::r=>n4 a b c d::words n r
 | _,_=>[]
theorem xw:∀ (n:Nat) (l:List Int),4*n≤l.length→(words n l).length=n
 | 0,l,_=>by cases l <;> simp [words]
 | n+1,[],h=>by simp at h
 | n+1,[_],h=>by simp at h;omega
 | n+1,[_,_],h=>by simp at h;omega
 | n+1,[_,_,_],h=>by simp at h;omega
 | n+1,a::b::c::d::r,h=>by simp only [words,List.length_cons];rw [xw n r (by simp at h;omega)]
def encW (l:List Int):List Int:=l.flatMap b4
theorem xq (l:List Int):(encW l).length=4*l.length:=by
 induction l with
 | nil=>rfl
 | cons x r ih=>simp only [encW,List.flatMap_cons,List.length_append] at *;rw [ih];simp [b4];omega
def encSeg (s:Seg):List Int:=[s.kind % 256,(s.ls.length:Int) % 256]++encW s.ls
def encPath (l:List Seg):List Int:=l.flatMap encSeg
def segRight (s:Seg):Prop:=(s.kind=1∨s.kind=2)∧1≤s.ls.length∧s.ls.length≤255
instance (s:Seg):Decidable (segRight s):=inferInstanceAs (Decidable (_∧_∧_))
def pathRight (l:List Seg):Prop:=(∀ s ∈ l,segRight s)∧l.length≤16
instance (l:List Seg):Decidable (pathRight l):=inferInstanceAs (Decidable (_∧_))
def segs:Nat→List Int→Option (List Seg)
 | 0,b=>if b=[] then some [] else none
 | _+1,[]=>some []
 | _+1,[_]=>none
 | f+1,k::n::r=>if (r.length:Int)<4*n then none else (segs f (r.drop (4*n.toNat))).map (⟨k,words n.toNat r⟩ :: ·)
def decPath (b:List Int):Option (List Seg):=match segs b.length b with
 | some l=>if pathRight l then some l else none
 | none=>none
theorem z2g:∀ (f g:Nat) (b:List Int),b.length≤f→b.length≤g→segs f b=segs g b
 | 0,0,_,_,_=>rfl
 | 0,g+1,[],_,_=>by simp [segs]
 | 0,g+1,_::_,h,_=>by simp at h
 | f+1,0,[],_,_=>by simp [segs]
 | f+1,0,_::_,_,h=>by simp at h
 | f+1,g+1,[],_,_=>by simp [segs]
 | f+1,g+1,[_],_,_=>by simp [segs]
 | f+1,g+1,k::n::r,h1,h2=>by
   simp only [segs]
   split
   ·rfl
   ·rw [z2g f g _ (by simp at h1 ⊢;omega) (by simp at h2 ⊢;omega)]
def oneA (fl kind:Int) (v:List Int):List Int :=
 (if 255<v.length then [fl+16,kind,(v.length:Int) / 256 % 256,(v.length:Int) % 256] else [fl,kind,(v.length:Int)])++v
def encA (a:At):List Int :=
 oneA 64 1 [a.org % 256]++oneA 64 2 (encPath a.path)++oneA 64 3 (b4 a.nxt)++(if a.hm then oneA 128 4 (b4 a.med) else [])++(if a.hp then oneA 64 5 (b4 a.prf) else []) ++
  (if a.atm then oneA 64 6 [] else [])++(if a.cms=[] then [] else oneA 192 8 (encW a.cms))
def goodN (n:Int):Prop:=n / 16777216≠0∧n / 16777216≠127∧n / 16777216<224
instance (n:Int):Decidable (goodN n):=inferInstanceAs (Decidable (_∧_∧_))
def atRight (a:At):Prop:=(0≤a.org∧a.org≤2)∧pathRight a.path∧goodN a.nxt∧(a.hm=false→a.med=0)∧(a.hp=false→a.prf=0)∧a.cms.length≤32∧Inc a.cms
structure Ch where
 fl:Int
 kind:Int
 val:List Int
 all:List Int
 rest:List Int
def andI (a b:Int):Int:=bitInt .and .i64 a b
def chunk:List Int→Option Ch
 | f::k::h::r =>
   if andI f 16=0 then (if (r.length:Int)<h then none else some ⟨f,k,r.take h.toNat,(f::k::h::r).take (3+h.toNat),r.drop h.toNat⟩)
   else match r with
    | l::r'=>if (r'.length:Int)<h*256+l then none else some ⟨f,k,r'.take (h*256+l).toNat,(f::k::h::r).take (4+(h*256+l).toNat),r'.drop (h*256+l).toNat⟩
    | []=>none
 | _=>none
def wantOf (k:Int):Int:=if k=1∨k=2∨k=3∨k=5∨k=6 then 64 else if k=4 then 128 else if k=8 then 192 else 0
def fitsOf (k:Int) (n:Nat):Prop:=(k=1→n=1)∧(k=3∨k=4∨k=5→n=4)∧(k=6→n=0)∧(k=8→n % 4=0)
instance (k:Int) (n:Nat):Decidable (fitsOf k n):=inferInstanceAs (Decidable (_∧_∧_∧_))
abbrev Nt:=Int×List Int
def valA (c:Ch) (a:At):Except Nt At :=
 if c.kind=1 then (if 2<c.val.headD 0 then .error (6,c.all) else .ok { a with org:=c.val.headD 0 })
 else if c.kind=2 then (match decPath c.val with | some l => .ok { a with path:=l } | none => .error (11,[]))
 else if c.kind=3 then (if goodN ((words 1 c.val).headD 0) then .ok { a with nxt:=(words 1 c.val).headD 0 } else .error (8,c.all))
 else if c.kind=4 then .ok { a with hm:=true,med:=(words 1 c.val).headD 0 }
 else if c.kind=5 then .ok { a with hp:=true,prf:=(words 1 c.val).headD 0 }
 else if c.kind=6 then .ok { a with atm:=true }
 else (if 32<c.val.length / 4 then .error (9,c.all) else .ok { a with cms:=words (c.val.length / 4) c.val })
def stepA (c:Ch) (a:At):Except Nt At :=
 if wantOf c.kind=0 then (if andI c.fl 128=0 then .error (2,c.all) else .ok a)
 else if andI c.fl 192≠wantOf c.kind∨andI c.fl 32≠0∧c.kind≠8 then .error (4,c.all)
 else if ¬ fitsOf c.kind c.val.length then .error (5,c.all)
 else valA c a
def decL (inner:Bool):Nat→List Int→At→List Int→List Int→Except Nt (At×List Int)
 | _,[],a,_,ty => .ok (a,ty)
 | 0,_::_,_,_,_ => .error (1,[])
 | f+1,x::r,a,seen,ty=>match chunk (x::r) with
   | none => .error (1,[])
   | some c=>if c.kind ∈ seen then .error (1,[])
     else if c.kind=5∧inner=false then decL inner f c.rest a (c.kind::seen) ty
     else match stepA c a with
      | .error n => .error n
      | .ok a'=>decL inner f c.rest a' (c.kind::seen) (ty++[c.kind])
theorem wm {b:List Int} {c:Ch} (h:chunk b=some c):c.rest.length<b.length:=by
 unfold chunk at h
 split at h
 ·split at h
  ·split at h
   ·cases h
   ·cases h;simp;omega
  ·split at h
   ·split at h
    ·cases h
    ·cases h;simp;omega
   ·cases h
 ·cases h
theorem vu (inner:Bool):∀ (f g:Nat) (b:List Int) (a:At) (seen ty:List Int),b.length≤f→b.length≤g→decL inner f b a seen ty=decL inner g b a seen ty
 | 0,0,_,_,_,_,_,_=>rfl
 | 0,g+1,[],_,_,_,_,_=>by simp [decL]
 | 0,g+1,_::_,_,_,_,h,_=>by simp at h
 | f+1,0,[],_,_,_,_,_=>by simp [decL]
 | f+1,0,_::_,_,_,_,_,h=>by simp at h
 | f+1,g+1,[],_,_,_,_,_=>by simp [decL]
 | f+1,g+1,x::r,a,seen,ty,h1,h2=>by
   simp only [decL]
   cases hc:chunk (x::r) with
   | none=>rfl
   | some c =>
     have hl:=wm hc
     simp only
     split
     ·rfl
     ·split
      ·exact vu inner f g _ _ _ _ (by simp at h1 hl;omega) (by simp at h2 hl;omega)
      ·split
       ·rfl
       ·exact vu inner f g _ _ _ _ (by simp at h1 hl;omega) (by simp at h2 hl;omega)
def decA (inner:Bool) (b:List Int):Except Nt (At×List Int):=match decL inner b.length b zeroAt [] [] with
 | .error n => .error n
 | .ok (a,ty) => .ok (canonA a,ty.mergeSort leI)
end Go.Am
namespace Go.Am
def decB (inner:Bool) (b:List Int) (a:At) (seen ty:List Int):Except Nt (At×List Int):=decL inner b.length b a seen ty
theorem z82 (inner:Bool) (a:At) (seen ty:List Int):decB inner [] a seen ty = .ok (a,ty):=by simp [decB,decL]
theorem z9j (inner:Bool) (b:List Int):decA inner b=match decB inner b zeroAt [] [] with | .error n => .error n | .ok (a,ty) => .ok (canonA a,ty.mergeSort leI):=rfl
theorem z3i (fl k:Int) (v:List Int):(oneA fl k v).length=(if 255<v.length then 4 else 3)+v.length:=by unfold oneA;split <;> simp <;> omega
structure It where
 k:Int
 v:List Int
def It.enc (i:It):List Int:=oneA (wantOf i.k) i.k i.v
def okNums (a:At):Prop:=(0≤a.nxt∧a.nxt<4294967296)∧(0≤a.med∧a.med<4294967296)∧(0≤a.prf∧a.prf<4294967296)∧U32s a.cms∧∀ s ∈ a.path,U32s s.ls
end Go.Am
namespace Go.Am
open Go.Proofs
theorem vo {α:Type} {l:List α} {n:Nat} (h1:1≤n) (h:l.length*n≤reachBytes):Small l:=by
 have h2:l.length*1≤l.length*n:=Nat.mul_le_mul_left _ h1
 have h3:reachBytes=140737488351232:=rfl
 unfold Small
 omega
theorem z9y {G:Gh} {w:World} {xs ys:List AV} {cs:Array Value} (h:ImpL xs ys) (hv:VRel G w (.agg xs) (.agg cs)):VRel G w (.agg ys) (.agg cs):=by
 cases hv with
 | agg hl hf hv =>
   refine .agg (by rw [←h.length];exact hl) h.flat fun k hk hk' => ?_
   obtain ⟨b,hb,hr⟩:=h.get k _ (List.getElem?_eq_getElem (by rw [h.length];exact hk))
   rw [List.getElem?_eq_getElem hk] at hb;cases hb
   exact hr.2 _ _ _ (hv k (by rw [h.length];exact hk) hk')
theorem z2o {m:Int} (h1:IntKind.u32.min≤m) (h2:m≤IntKind.u32.max):0≤m∧m<4294967296:=by
 have e1:IntKind.u32.min=0:=rfl
 have e2:IntKind.u32.max=4294967295:=rfl
 omega
theorem dU {k:Nat} (xs:List AV) (h:TOk Tryz.prog (k+1) 23 xs):∃ r:Int,ImpL xs (cU r)∧(0≤r∧r<4294967296):=by
 obtain ⟨m1,rfl,g1,g2⟩:=TOk.int Tryz.underlying23 h
 exact ⟨m1,ImpL.one rfl,z2o g1 g2⟩
theorem dI {k:Nat} (xs:List AV) (h:TOk Tryz.prog (k+1) 3 xs):∃ r:Int,ImpL xs (cI r)∧I64 r:=by
 obtain ⟨m1,rfl,g1,g2⟩:=TOk.int Tryz.underlying3 h
 exact ⟨m1,ImpL.one rfl,⟨g1,g2⟩⟩
theorem zg8 (xs:List AV) (h:TOk Tryz.prog 3 63 xs):∃ r:Seg,ImpL xs r.c∧U32s r.ls:=by
 obtain ⟨a,b,rfl,h1,c,d,rfl,h2,rfl⟩:=TOk.struct (ts:=[3,24]) Tryz.underlying63 rfl h
 obtain ⟨m1,rfl,g1,g2⟩:=TOk.int Tryz.underlying3 h1
 obtain ⟨rs,hr,_,hro⟩:=TOk.slI (sz:=1) (by_:=4) Tryz.underlying24 (by kernel_rfl) (by kernel_rfl) cU (fun r=>0≤r∧r<4294967296) dU h2
 exact ⟨⟨m1,rs⟩,(ImpL.one rfl).append (hr.append .nil),hro⟩
theorem dAt (xs:List AV) (h:TOk Tryz.prog 5 26 xs):∃ r:At,ImpL xs r.c∧I64 r.org∧okNums r:=by
 obtain ⟨a1,b1,rfl,h1,a2,b2,rfl,h2,a3,b3,rfl,h3,a4,b4,rfl,h4,a5,b5,rfl,h5,a6,b6,rfl,h6,a7,b7,rfl,h7,a8,b8,rfl,h8,a9,b9,rfl,h9,rfl⟩:=TOk.struct (ts:=[3,22,23,4,23,4,23,4,24]) Tryz.underlying26 rfl h
 obtain ⟨m1,rfl,g1,g2⟩:=TOk.int Tryz.underlying3 h1
 obtain ⟨rs,hr,_,hro⟩:=TOk.slI (sz:=2) (by_:=32) Tryz.underlying22 (by kernel_rfl) (by kernel_rfl) Seg.c (fun r=>U32s r.ls) zg8 h2
 obtain ⟨m3,rfl,a31,a32⟩:=TOk.int Tryz.underlying23 h3
 obtain ⟨m4,rfl⟩:=TOk.bool Tryz.underlying4 h4
 obtain ⟨m5,rfl,a51,a52⟩:=TOk.int Tryz.underlying23 h5
 obtain ⟨m6,rfl⟩:=TOk.bool Tryz.underlying4 h6
 obtain ⟨m7,rfl,a71,a72⟩:=TOk.int Tryz.underlying23 h7
 obtain ⟨m8,rfl⟩:=TOk.bool Tryz.underlying4 h8
 obtain ⟨cs,hc,_,hco⟩:=TOk.slI (sz:=1) (by_:=4) Tryz.underlying24 (by kernel_rfl) (by kernel_rfl) cU (fun r=>0≤r∧r<4294967296) dU h9
 exact ⟨⟨m1,rs,m3,m4,m5,m6,m7,m8,cs⟩,(ImpL.one rfl).append (hr.append ((ImpL.one rfl).append ((ImpL.one rfl).append ((ImpL.one rfl).append ((ImpL.one rfl).append ((ImpL.one rfl).append ((ImpL.one rfl).append (hc.append .nil)))))))),⟨g1,g2⟩,z2o a31 a32,z2o a51 a52,z2o a71 a72,hco,hro⟩
end Go.Am
namespace Go.Am
open Go.Proofs Go.Sort
theorem c16 (n lo hi:Int) (h1:I64 n) (h2:0≤lo) (h3:lo≤hi) (h4:hi<4294967296):Pur Tryz.prog 16 [.int .i64 n,.int .i64 lo,.int .i64 hi] (.int .i64 (lo+(n % (hi - lo+1)))):=by
 refine zu Tst.F16 (by simp [Tst.F16,Fn.mkX]) fun σ => ?_
 simp only [Tst.F16,Fn.mkX,Tst.b16]
 simp only [↓vcPre,↓z0,↓reduceIte,vcPost,vcStd,Nat.reduceEqDiff,reduceCtorEq,Nat.reduceAdd,Nat.reduceLeDiff,Int.reduceLT,Int.reduceLE,↓u_setN]
 have w:∀ {x:Int},-9223372036854775808≤x→x≤9223372036854775807→IntKind.i64.wrap x=x:=fun a b=>zb ⟨a,b⟩
 rw [w (x:=hi - lo) (by omega) (by omega),w (x:=hi - lo+1) (by omega) (by omega)]
 have hm:0<hi - lo+1:=by omega
 generalize hd:hi - lo+1=d at *
 have he:n % d=if n.tmod d<0 then n.tmod d+d else n.tmod d:=by
  rw [Int.tmod_eq_emod]
  have:=Int.emod_nonneg n (b:=d) (by omega)
  have:=Int.emod_lt_of_pos n (b:=d) (by omega)
  split <;> split <;> omega
 have b1:=Int.emod_nonneg n (b:=d) (by omega)
 have b2:=Int.emod_lt_of_pos n (b:=d) (by omega)
 refine ⟨by omega,fun hn => ?_,fun hn => ?_⟩
 ·rw [if_pos hn] at he
  rw [w (x:=n.tmod d+hi) (by omega) (by omega),w (x:=n.tmod d+hi - lo) (by omega) (by omega),w (x:=n.tmod d+hi - lo+1) (by omega) (by omega),w (by omega) (by omega)];omega
 ·rw [if_neg hn] at he
  rw [w (by omega) (by omega)];omega
end Go.Am
namespace Go.Am
open Go.Proofs Go.Sort
theorem zbw (n:Int) (h:I64 n):Pur Tryz.prog 128 [.int .i64 n] (.int .u32 (maskF n)):=by
 refine zu Tst.F128 (by simp [Tst.F128,Fn.mkX]) fun σ => ?_
 simp only [Tst.F128,Fn.mkX,Tst.b128]
 simp only [↓vcPre,↓z0,↓reduceIte,vcPost,vcStd,Nat.reduceEqDiff,reduceCtorEq,Nat.reduceAdd,Nat.reduceLeDiff,Int.reduceLT,Int.reduceLE,↓u_setN]
 refine ⟨fun h1=>by simp [maskF,h1],fun h1 => ?_⟩
 have e:IntKind.i64.wrap (32 - if 32<n then 32 else n)=32 - min n 32:=by
  rw [zb (by unfold I64;split <;> omega)];split <;> omega
 rw [e]
 exact ⟨by omega,by simp [maskF,h1]⟩
theorem zh0 (a n:Int):Pur Tryz.prog 152 [.agg [.int .u32 a,.int .i64 n]] (.bool (rightF a n)):=by
 refine zu Tst.F152 (by simp [Tst.F152,Fn.mkX]) fun σ => ?_
 simp only [Tst.F152,Fn.mkX,Tst.b152]
 simp only [↓vcPre,↓z0,↓reduceIte,vcPost,vcStd,Nat.reduceEqDiff,reduceCtorEq,Nat.reduceAdd,Nat.reduceLeDiff,Int.reduceLT,Int.reduceLE,↓u_setN]
 refine AllocQ.i0 fun i hi => ?_
 simp only [*,↓vcPre,↓z0,↓reduceIte,vcPost,vcStd,Nat.reduceEqDiff,reduceCtorEq,Nat.reduceAdd,Nat.reduceLeDiff,Int.reduceLT,Int.reduceLE,↓u_setN]
 refine ⟨fun h1=>⟨fun h2=>(zbw n (by unfold I64;omega)).Q ?_,fun h2=>by simp [rightF,h2]⟩,fun h2=>by simp [rightF,h2]⟩
 simp only [*,↓vcPre,↓z0,↓reduceIte,vcPost,vcStd,Nat.reduceEqDiff,reduceCtorEq,Nat.reduceAdd,Nat.reduceLeDiff,Int.reduceLT,Int.reduceLE,↓u_setN]
 simp [rightF,h1,h2]
theorem c92 (n:Int) (h:I64 n):Pur Tryz.prog 92 [.int .i64 n] (.int .u32 (maskF n)):=by
 refine zu Tst.F92 (by simp [Tst.F92,Fn.mkX]) fun σ => ?_
 simp only [Tst.F92,Fn.mkX,Tst.b92]
 simp only [↓vcPre,↓z0,↓reduceIte,vcPost,vcStd,Nat.reduceEqDiff,reduceCtorEq,Nat.reduceAdd,Nat.reduceLeDiff,Int.reduceLT,Int.reduceLE,↓u_setN]
 refine LoopQ.inv (S:=Nat) (fun i=>[(0,.int .i64 n),(3,.int .u32 (maskF i)),(4,.int .i64 i)]) (fun _=>σ) (fun i=>(i:Int)≤max n 0∧i≤32) (fun i=>33 - i) 0 rfl (Store.sub_refl _) ⟨by omega,by omega⟩ ?_
 intro i hi
 simp only [↓vcPre,↓z0,↓reduceIte,vcPost,vcStd,Nat.reduceEqDiff,reduceCtorEq,Nat.reduceAdd,Nat.reduceLeDiff,Int.reduceLT,Int.reduceLE,↓u_setN]
 have w:IntKind.i64.wrap (31 - ↑i)=31 - (i:Int):=zb ⟨by omega,by omega⟩
 have w1:IntKind.i64.wrap (↑i+1)=(i:Int)+1:=zb ⟨by omega,by omega⟩
 refine ⟨fun h1=>⟨fun h2 => ?_,fun h2 => ?_⟩,fun h1 => ?_⟩
 ·have w2:IntKind.u64.wrap (31 - ↑i)=31 - (i:Int):=by simp [IntKind.wrap,IntKind.bits,IntKind.signed];omega
  rw [w,w1,w2]
  refine ⟨by omega,NextQ.to (i+1) ?_ (Store.sub_refl _) (by omega) ⟨by omega,by omega⟩⟩
  have:=z6t ⟨i,by omega⟩
  simp only at this
  simp only [this,Int.natCast_add,Int.cast_ofNat_Int]
 ·rw [z0q (n:=i) (by omega),z0q (n:=n) (by omega)]
 ·by_cases h0:n≤0
  ·rw [z0r (n:=i) (by omega),z0r h0]
  ·rw [show (i:Int)=n by omega]
theorem c49 (a n:Int):Pur Tryz.prog 49 [.agg [.int .u32 a,.int .i64 n]] (.bool (rightF a n)):=by
 refine zu Tst.F49 (by simp [Tst.F49,Fn.mkX]) fun σ => ?_
 simp only [Tst.F49,Fn.mkX,Tst.b49]
 simp only [↓vcPre,↓z0,↓reduceIte,vcPost,vcStd,Nat.reduceEqDiff,reduceCtorEq,Nat.reduceAdd,Nat.reduceLeDiff,Int.reduceLT,Int.reduceLE,↓u_setN]
 refine AllocQ.i0 fun i hi => ?_
 simp only [*,↓vcPre,↓z0,↓reduceIte,vcPost,vcStd,Nat.reduceEqDiff,reduceCtorEq,Nat.reduceAdd,Nat.reduceLeDiff,Int.reduceLT,Int.reduceLE,↓u_setN]
 refine ⟨fun h1=>⟨fun h2=>(c92 n (by unfold I64;omega)).Q ?_,fun h2=>by simp [rightF,h2]⟩,fun h2=>by simp [rightF,h2]⟩
 simp only [*,↓vcPre,↓z0,↓reduceIte,vcPost,vcStd,Nat.reduceEqDiff,reduceCtorEq,Nat.reduceAdd,Nat.reduceLeDiff,Int.reduceLT,Int.reduceLE,↓u_setN]
 simp [rightF,h1,h2]
theorem c89 (a n:Int) (h:I64 n):Pur Tryz.prog 89 [.int .u32 a,.int .i64 n] (.agg [.int .u32 (ofF a n).1,.int .i64 (ofF a n).2]):=by
 refine zu Tst.F89 (by simp [Tst.F89,Fn.mkX]) fun σ => ?_
 simp only [Tst.F89,Fn.mkX,Tst.b89]
 simp only [↓vcPre,↓z0,↓reduceIte,vcPost,vcStd,Nat.reduceEqDiff,reduceCtorEq,Nat.reduceAdd,Nat.reduceLeDiff,Int.reduceLT,Int.reduceLE,↓u_setN]
 refine AllocQ.i0 fun i hi => ?_
 simp only [*,↓vcPre,↓z0,↓reduceIte,vcPost,vcStd,Nat.reduceEqDiff,reduceCtorEq,Nat.reduceAdd,Nat.reduceLeDiff,Int.reduceLT,Int.reduceLE,↓u_setN]
 have e0:max (min n 32) 0=if n<0 then 0 else if 32<n then 32 else n:=by split <;> (try split) <;> omega
 refine ⟨fun h1=>(c92 0 (by unfold I64;omega)).Q ?_,fun h1=>⟨fun h2=>(c92 32 (by unfold I64;omega)).Q ?_,fun h2=>(c92 n h).Q ?_⟩⟩
 ·simp only [*,↓vcPre,↓z0,↓reduceIte,vcPost,vcStd,Nat.reduceEqDiff,reduceCtorEq,Nat.reduceAdd,Nat.reduceLeDiff,Int.reduceLT,Int.reduceLE,↓u_setN]
  simp [ofF,e0,h1]
 ·simp only [*,↓vcPre,↓z0,↓reduceIte,vcPost,vcStd,Nat.reduceEqDiff,reduceCtorEq,Nat.reduceAdd,Nat.reduceLeDiff,Int.reduceLT,Int.reduceLE,↓u_setN]
  simp [ofF,e0,h1,h2]
 ·simp only [*,↓vcPre,↓z0,↓reduceIte,vcPost,vcStd,Nat.reduceEqDiff,reduceCtorEq,Nat.reduceAdd,Nat.reduceLeDiff,Int.reduceLT,Int.reduceLE,↓u_setN]
  simp [ofF,e0,h1,h2]
theorem z8h (n:Int):maskF (max (min n 32) 0)=maskF n:=by
 by_cases h:n≤0
 ·rw [z0r h,show max (min n 32) 0=0 by omega]
 ·by_cases h2:32≤n
  ·rw [z0q h2,show max (min n 32) 0=32 by omega]
  ·rw [show max (min n 32) 0=n by omega]
theorem c96 (a n:Int) (h:I64 n):Pur Tryz.prog 96 [.int .u32 a,.int .i64 n] (.agg [.int .u32 (ofF a n).1,.int .i64 (ofF a n).2]):=by
 refine zu Tst.F96 (by simp [Tst.F96,Fn.mkX]) fun σ => ?_
 simp only [Tst.F96,Fn.mkX,Tst.b96]
 simp only [↓vcPre,↓z0,↓reduceIte,vcPost,vcStd,Nat.reduceEqDiff,reduceCtorEq,Nat.reduceAdd,Nat.reduceLeDiff,Int.reduceLT,Int.reduceLE,↓u_setN]
 refine AllocQ.i0 fun i hi => ?_
 simp only [↓vcPre,↓z0,↓reduceIte,vcPost,vcStd,Nat.reduceEqDiff,reduceCtorEq,Nat.reduceAdd,Nat.reduceLeDiff,Int.reduceLT,Int.reduceLE,↓u_setN]
 refine (zbw n h).Q ?_
 simp only [↓vcPre,↓z0,↓reduceIte,vcPost,vcStd,Nat.reduceEqDiff,reduceCtorEq,Nat.reduceAdd,Nat.reduceLeDiff,Int.reduceLT,Int.reduceLE,↓u_setN]
 refine ⟨⟨by simp only [ofF,z8h],?_⟩,z8 (Store.sub_set _ _ _ hi) hi⟩
 simp only [ofF]
 split <;> split <;> omega
theorem c46 (a n:Int) (h:I64 n):Pur Tryz.prog 46 [.int .u32 a,.int .i64 n] (.agg [.int .u32 (ofF a (n % 33)).1,.int .i64 (ofF a (n % 33)).2]):=by
 refine zu Tst.F46 (by simp [Tst.F46,Fn.mkX]) fun σ => ?_
 simp only [Tst.F46,Fn.mkX,Tst.b46]
 simp only [↓vcPre,↓z0,↓reduceIte,vcPost,vcStd,Nat.reduceEqDiff,reduceCtorEq,Nat.reduceAdd,Nat.reduceLeDiff,Int.reduceLT,Int.reduceLE,↓u_setN]
 refine AllocQ.i0 fun i hi => ?_
 simp only [↓vcPre,↓z0,↓reduceIte,vcPost,vcStd,Nat.reduceEqDiff,reduceCtorEq,Nat.reduceAdd,Nat.reduceLeDiff,Int.reduceLT,Int.reduceLE,↓u_setN]
 refine (c16 n 0 32 h (by omega) (by omega) (by omega)).Q ?_
 rw [show (0:Int)+n % (32 - 0+1)=n % 33 by omega]
 simp only [↓vcPre,↓z0,↓reduceIte,vcPost,vcStd,Nat.reduceEqDiff,reduceCtorEq,Nat.reduceAdd,Nat.reduceLeDiff,Int.reduceLT,Int.reduceLE,↓u_setN]
 refine (c89 a (n % 33) (by unfold I64;omega)).Q ?_
 simp only [↓vcPre,↓z0,↓reduceIte,vcPost,vcStd,Nat.reduceEqDiff,reduceCtorEq,Nat.reduceAdd,Nat.reduceLeDiff,Int.reduceLT,Int.reduceLE,↓u_setN]
 exact z8 (Store.sub_set _ _ _ hi) hi
def pxC (x:Int×Int):List AV:=[.int .u32 x.1,.int .i64 x.2]
end Go.Am
namespace Go.Am
open Go.Proofs Go.Sort
def cB (n:Int):List AV:=[.int .u8 n]
def WI (τ:Store) (id:Nat) (L:List Int) (s:Store):Prop:=τ id=none∧Store.sub τ s∧∃ v,s id=some (.box [v])∧Own 1 τ (L.map cB) v s
theorem WI.mono {τ s s':Store} {id:Nat} {L:List Int} (h:WI τ id L s) (hs:Store.sub s s'):WI τ id L s':=by
 obtain ⟨h1,h2,v,h3,h4⟩:=h
 exact ⟨h1,Store.sub_trans h2 hs,v,hs _ _ h3,h4.mono hs⟩
theorem s62 (σ:Store):ACalls Tryz.prog 62 [] σ (fun r s=>∃ id,r = .ptr id 0∧WI σ id [] s):=by
 refine zh Tst.F62 (by simp [Tst.F62,Fn.mkX]) ?_
 simp only [Tst.F62,Fn.mkX,Tst.b62]
 simp only [↓vcPre,↓z0,↓reduceIte,vcPost,vcStd,Nat.reduceEqDiff,reduceCtorEq,Nat.reduceAdd,Nat.reduceLeDiff,Int.reduceLT,Int.reduceLE,↓u_setN]
 refine AllocQ.i0 fun id hid => ?_
 simp only [↓vcPre,↓z0,↓reduceIte,vcPost,vcStd,Nat.reduceEqDiff,reduceCtorEq,Nat.reduceAdd,Nat.reduceLeDiff,Int.reduceLT,Int.reduceLE,↓u_setN]
 exact EndQ.to _ _ rfl (Store.sub_refl _) ⟨id,rfl,hid,Store.sub_set _ _ _ hid,.nils,Store.set_same _ _ _,.nil⟩
theorem Own.setId {esz:Nat} {τ s:Store} {L:List (List AV)} {v:AV} {id:Nat} {o o':Obj} (h:Own esz τ L v s) (hid:s id=some o) (ho:∀ M,o ≠ .arr esz M):Own esz τ L v (s.set id o'):=by
 rcases h with h | ⟨g,h1,h2,h3⟩
 ·exact .inl h
 ·have hgi:¬ g=id:=fun e=>by rw [e,hid] at h3;cases h3;exact ho _ rfl
  exact .inr ⟨g,h1,h2,by rw [Store.set_ne _ _ hgi];exact h3⟩
theorem Own.cell {esz:Nat} {τ s:Store} {L:List (List AV)} {v:AV} (h:Own esz τ L v s):v.isTup=false∧v.cells=[v]:=by
 rcases h with ⟨_,rfl⟩ | ⟨g,rfl,_⟩ <;> exact ⟨rfl,rfl⟩
theorem u8w (n:Int):IntKind.u8.wrap n=n % 256:=by simp [IntKind.wrap,IntKind.bits,IntKind.signed]
theorem z8u (n:Int):IntKind.u64.wrap n=n % 18446744073709551616:=by simp [IntKind.wrap,IntKind.bits,IntKind.signed]
theorem z1x (n:Int):IntKind.u32.wrap n=n % 4294967296:=by simp [IntKind.wrap,IntKind.bits,IntKind.signed]
def Rd (esz:Nat) (τ:Store) (L:List (List AV)) (v:AV):Prop:=(∀ t,Store.sub τ t→slc t esz v=some L)∧pv .len [v]=some (.int .i64 L.length)
theorem Rd.mono {esz:Nat} {τ τ':Store} {L:List (List AV)} {v:AV} (h:Rd esz τ L v) (hs:Store.sub τ τ'):Rd esz τ' L v:=⟨fun t ht=>h.1 t (Store.sub_trans hs ht),h.2⟩
theorem Rd.sl {esz:Nat} {τ:Store} {L:List (List AV)}:Rd esz τ L (.sl esz L):=⟨fun _ _=>qw,by simp [pv,pLen]⟩
theorem Rd.nils {esz:Nat} {τ:Store}:Rd esz τ [] .nils:=⟨fun _ _=>rfl,rfl⟩
theorem Rd.os {esz g:Nat} {τ:Store} {L:List (List AV)} (h:τ g=some (.arr esz L)):Rd esz τ L (.os g esz 0 L.length):=⟨fun t ht=>zq (ht _ _ h) rfl,by simp [pv,pLen]⟩
theorem Rd.own {esz:Nat} {τ s:Store} {L:List (List AV)} {v:AV} (h:Own esz τ L v s):Rd esz s L v:=by
 rcases h with ⟨rfl,rfl⟩ | ⟨g,rfl,_,h⟩
 ·exact Rd.nils
 ·exact Rd.os h
theorem Own.appM {esz bytes:Nat} {τ s:Store} {L ys:List (List AV)} {v wv:AV} {K:AV→Store→Prop} (hsub:Store.sub τ s) (ho:Own esz τ L v s) (hw:slc s esz wv=some ys) (hsz:(L.length+ys.length)*bytes≤140737488355328)
 (h:∀ v' s',Store.sub τ s'→Own esz τ (L++ys) v' s'→K v' s'):appwp esz bytes v wv s K:=by
 rcases ho with ⟨rfl,rfl⟩ | ⟨g,rfl,hg,hs⟩
 ·refine z1n hw (by simpa using hsz) (fun h0 => ?_) (fun _ j hj => ?_)
  ·exact h _ _ hsub (.inl ⟨by simpa using h0,rfl⟩)
  ·exact h _ _ (z8 hsub (zj hsub hj)) (.inr ⟨j,rfl,zj hsub hj,Store.set_same _ _ _⟩)
 ·refine xh (zq hs rfl) hw hsz fun j hj => ?_
  have hτ:τ j=none:=zj hsub hj
  refine h _ _ (fun x q hx => ?_) (.inr ⟨j,by simp,hτ,by rw [Store.set_same]⟩)
  have hxj:x≠j:=fun e=>by subst e;rw [hτ] at hx;cases hx
  have hxg:x≠g:=fun e=>by subst e;rw [hg] at hx;cases hx
  rw [Store.set_ne _ _ hxj,Store.del_ne _ hxg];exact hsub x q hx
theorem Rd.cases {esz:Nat} {σ:Store} {L:List (List AV)} {v:AV} (h:Rd esz σ L v):(v = .nils∧L=[])∨v = .sl esz L∨∃ g o n,v = .os g esz o n:=by
 have h1:=h.1 σ (Store.sub_refl _)
 unfold slc at h1
 split at h1
 ·exact .inl ⟨rfl,by cases h1;rfl⟩
 ·split at h1
  ·rename_i e;subst e;cases h1;exact .inr (.inl rfl)
  ·cases h1
 ·split at h1
  ·split at h1
   ·rename_i e;obtain ⟨rfl,_,_⟩:=e;exact .inr (.inr ⟨_,_,_,rfl⟩)
   ·cases h1
  ·cases h1
 ·cases h1
theorem Rd.at {esz:Nat} {τ:Store} {L:List (List AV)} {v:AV} (h:Rd esz τ L v) {k:Nat} (hk:k<L.length):∃ p,pv (.idx esz) [v,.int .i64 (k:Int)]=some p∧∀ t,Store.sub τ t→∀ n,rd t n p=takeN 0 n L[k]:=by
 rcases h.cases with ⟨rfl,h0⟩ | rfl | ⟨g,o,n,rfl⟩
 ·subst h0;simp at hk
 ·refine ⟨.ep L[k],by simp [pv,pIdx,hk],fun t _ n=>rfl⟩
 ·have hl:=h.2
  simp only [pv,pLen,Option.some.injEq,AV.int.injEq,true_and] at hl
  refine ⟨.aptr g esz (o+k) 0,by simp [pv,pIdx];omega,fun t ht m => ?_⟩
  have h1:=h.1 t ht
  unfold slc at h1
  simp only at h1
  split at h1
  ·rename_i e2 es hg
   split at h1
   ·rename_i e;obtain ⟨_,rfl,hle⟩:=e
    have h2:=Option.some.inj h1
    have h3:es[o+k]? = some L[k]:=by
     have h4:((es.drop o).take n)[k]? = some L[k]:=by rw [h2];exact List.getElem?_eq_getElem hk
     rw [List.getElem?_take_of_lt (by omega),List.getElem?_drop] at h4
     exact h4
    simp only [rd,hg,if_true,h3,Option.bind_some]
   ·cases h1
  ·cases h1
theorem s93 {σ:Store} {M:List Int} {v:AV} (hr:Rd 1 σ (M.map cB) v) (hM:M.length≤1000000000):ACalls Tryz.prog 93 [v] σ (fun r s=>s=σ∧r = .sl 1 (M.map cB)):=by
 refine zh Tst.F93 (by simp [Tst.F93,Fn.mkX]) ?_
 simp only [Tst.F93,Fn.mkX,Tst.b93]
 have hcp:∀ i,σ i=none→slc (σ.set i (.arr 1 [])) 1 v=some (M.map cB):=fun i hi=>hr.1 _ (Store.sub_set _ _ _ hi)
 rcases hr.cases with ⟨rfl,h0⟩ | rfl | ⟨g,o,n,rfl⟩
 ·simp only [↓vcPre,↓z0,↓reduceIte,vcPost,vcStd,Nat.reduceEqDiff,reduceCtorEq,Nat.reduceAdd,Nat.reduceLeDiff,Int.reduceLT,Int.reduceLE,↓u_setN]
  exact EndQ.nil1 1 σ rfl (Store.sub_refl _) ⟨rfl,by rw [h0]⟩
 ·simp only [↓vcPre,↓z0,↓reduceIte,vcPost,vcStd,Nat.reduceEqDiff,reduceCtorEq,Nat.reduceAdd,Nat.reduceLeDiff,Int.reduceLT,Int.reduceLE,↓u_setN]
  show nilqwp false (.sl 1 (M.map cB)) _
  refine z7i fun b hb => ?_
  cases b with
  | true =>
    have hl:M=[]:=by
     cases M with
     | nil=>rfl
     | cons x r=>have:=hb (by simp);cases this
    subst hl
    simp only [↓vcPre,↓z0,↓reduceIte,vcPost,vcStd,Nat.reduceEqDiff,reduceCtorEq,Nat.reduceAdd,Nat.reduceLeDiff,Int.reduceLT,Int.reduceLE,↓u_setN]
    exact EndQ.nil1 1 σ rfl (Store.sub_refl _) ⟨rfl,rfl⟩
  | false =>
    simp only [↓vcPre,↓z0,↓reduceIte,vcPost,vcStd,Nat.reduceEqDiff,reduceCtorEq,Nat.reduceAdd,Nat.reduceLeDiff,Int.reduceLT,Int.reduceLE,↓u_setN]
    refine AllocQ.i0 fun i hi => ?_
    simp only [↓vcPre,↓z0,↓reduceIte,vcPost,vcStd,Nat.reduceEqDiff,reduceCtorEq,Nat.reduceAdd,Nat.reduceLeDiff,Int.reduceLT,Int.reduceLE,↓u_setN]
    refine xh (zq (Store.set_same _ _ _) rfl) (hcp i hi) (by simp;omega) fun j hj => ?_
    simp only [List.nil_append,List.length_nil,Nat.zero_add]
    refine EndQ.frz j 1 0 _ (M.map cB) σ rfl (Store.set_same _ _ _) (by simp) (ug hi hj) ⟨rfl,?_⟩
    rw [List.drop_zero,List.take_of_length_le (by simp)]
 ·simp only [↓vcPre,↓z0,↓reduceIte,vcPost,vcStd,Nat.reduceEqDiff,reduceCtorEq,Nat.reduceAdd,Nat.reduceLeDiff,Int.reduceLT,Int.reduceLE,↓u_setN]
  refine AllocQ.i0 fun i hi => ?_
  simp only [↓vcPre,↓z0,↓reduceIte,vcPost,vcStd,Nat.reduceEqDiff,reduceCtorEq,Nat.reduceAdd,Nat.reduceLeDiff,Int.reduceLT,Int.reduceLE,↓u_setN]
  refine xh (zq (Store.set_same _ _ _) rfl) (hcp i hi) (by simp;omega) fun j hj => ?_
  simp only [List.nil_append,List.length_nil,Nat.zero_add]
  refine EndQ.frz j 1 0 _ (M.map cB) σ rfl (Store.set_same _ _ _) (by simp) (ug hi hj) ⟨rfl,?_⟩
  rw [List.drop_zero,List.take_of_length_le (by simp)]
end Go.Am
namespace Go.Am
open Go.Proofs Go.Sort
def ofSz (k:Int):Int:=if k=1 then 1 else if k=2 then -1 else if k=3∨k=4∨k=5 then 4 else if k=8 then -4 else 0
def ofOk (k:Int):Bool:=decide (wantOf k≠0)
theorem c69 (k:Int):Pur Tryz.prog 69 [.int .i64 k] (.tup [.int .i64 (wantOf k),.int .i64 (ofSz k),.bool (ofOk k)]):=by
 refine zu Tst.F69 (by simp [Tst.F69,Fn.mkX]) fun σ => ?_
 simp only [Tst.F69,Fn.mkX,Tst.b69]
 simp only [↓vcPre,↓z0,↓reduceIte,vcPost,vcStd,Nat.reduceEqDiff,reduceCtorEq,Nat.reduceAdd,Nat.reduceLeDiff,Int.reduceLT,Int.reduceLE,↓u_setN]
 refine ⟨fun h => ?_,fun h1=>⟨fun h => ?_,fun h2=>⟨fun h => ?_,fun h3=>⟨fun h => ?_,fun h4=>⟨fun h => ?_,fun h5=>⟨fun h => ?_,fun h6=>⟨fun h => ?_,fun h8 => ?_⟩⟩⟩⟩⟩⟩⟩
 all_goals first
  | (subst h;rfl)
  | (simp [ofSz,ofOk,wantOf,h1,h2,h3,h4,h5,h6,h8])
theorem z24 (l:List Int) (k:Nat) (h:k<l.length):encW (l.take (k+1))=encW (l.take k)++b4 l[k]:=by
 unfold encW
 rw [List.take_add_one,List.getElem?_eq_getElem h,List.flatMap_append]
 simp only [Option.toList_some,List.flatMap_cons,List.flatMap_nil,List.append_nil]
end Go.Am
namespace Go.Am
open Go.Proofs Go.Sort
theorem inc_pt {l:List Int}:Inc l↔∀ i,∀ h:i+1<l.length,l[i]<l[i+1]:=by
 unfold Inc
 rw [List.pairwise_iff_getElem]
 constructor
 ·intro h i hi;exact h i (i+1) (by omega) hi (by omega)
 ·intro h i j hi hj hij
  induction j with
  | zero=>omega
  | succ j ih =>
    have h1:=h j hj
    by_cases e:i=j
    ·subst e;exact h1
    ·have:=ih (by omega) (by omega);omega
instance (l:List Int):Decidable (Inc l):=inferInstanceAs (Decidable (l.Pairwise (· < ·)))
instance (a:At):Decidable (atRight a):=inferInstanceAs (Decidable (_∧_∧_∧_∧_∧_∧_))
theorem zgz (s:Seg):Pur Tryz.prog 130 [.agg s.c] (.bool (decide (segRight s))):=by
 refine zu Tst.F130 (by simp [Tst.F130,Fn.mkX]) fun σ => ?_
 simp only [Tst.F130,Fn.mkX,Tst.b130]
 simp only [Seg.c,↓vcPre,↓z0,↓reduceIte,vcPost,vcStd,Nat.reduceEqDiff,reduceCtorEq,Nat.reduceAdd,Nat.reduceLeDiff,Int.reduceLT,Int.reduceLE,↓u_setN]
 refine AllocQ.i0 fun i hi => ?_
 simp only [Seg.c,↓vcPre,↓z0,↓reduceIte,vcPost,vcStd,Nat.reduceEqDiff,reduceCtorEq,Nat.reduceAdd,Nat.reduceLeDiff,Int.reduceLT,Int.reduceLE,↓u_setN]
 have hsb:=Store.sub_set σ i (.box [.int .i64 s.kind,.sl 1 (s.ls.map cU)]) hi
 (repeat' first
   | (refine ⟨fun _ => ?_,fun _ => ?_⟩)
   | (refine ⟨?_,hsb⟩)
   | (refine decide_eq_decide.2 ?_;unfold segRight;omega)
   | (symm;rw [decide_eq_false_iff_not];unfold segRight;omega)
   | (symm;rw [decide_eq_true_iff];unfold segRight;omega))
theorem z32 (x:Int):x.fdiv 16777216=x / 16777216:=Int.fdiv_eq_ediv_of_nonneg _ (by omega)
theorem c31 (n:Int):Pur Tryz.prog 31 [.int .u32 n] (.bool (decide (goodN n))):=by
 refine zu Tst.F31 (by simp [Tst.F31,Fn.mkX]) fun σ => ?_
 simp only [Tst.F31,Fn.mkX,Tst.b31]
 have e:shrInt .u32 n 24=n / 16777216:=by
  simp [shrInt,IntKind.bits,z32]
 simp only [e,↓vcPre,↓z0,↓reduceIte,vcPost,vcStd,Nat.reduceEqDiff,reduceCtorEq,Nat.reduceAdd,Nat.reduceLeDiff,Int.reduceLT,Int.reduceLE,↓u_setN]
 have hsb:=Store.sub_refl σ
 (repeat' first
   | (refine ⟨fun _ => ?_,fun _ => ?_⟩)
   | (refine ⟨?_,hsb⟩)
   | (refine decide_eq_decide.2 ?_;unfold goodN;omega)
   | (symm;rw [decide_eq_false_iff_not];unfold goodN;omega)
   | (symm;rw [decide_eq_true_iff];unfold goodN;omega))
end Go.Am
namespace Go.Am
open Go.Proofs Go.Sort
theorem z30 (l:List Seg) (k:Nat) (h:k<l.length):encPath (l.take (k+1))=encPath (l.take k)++encSeg l[k]:=by
 unfold encPath
 rw [List.take_add_one,List.getElem?_eq_getElem h,List.flatMap_append]
 simp only [Option.toList_some,List.flatMap_cons,List.flatMap_nil,List.append_nil]
def boxC (a:At):Obj := .box [.int .i64 a.org,.sl 2 (a.path.map Seg.c),.int .u32 a.nxt,.bool a.hm,.int .u32 a.med,.bool a.hp,.int .u32 a.prf,.bool a.atm,.sl 1 (a.cms.map cU)]
theorem z4x (fl k:Int) (v:List Int):(oneA fl k v).length≤4+v.length:=by rw [z3i];split <;> omega
theorem uh (n:Int):(b4 n).length=4:=rfl
end Go.Am
namespace Go.Am.Tsj
open Go.Proofs Go.Am.B
def t11_39:BC := .seq (z [f 39 8 1,l 40 1 39,u 41 .len 40,c 42 .gtr 41 0] [1,3,42] (.cond (.t 42) (z [k 4 .nils] [1,3,4] (.seq (z [j 5 0] [1,3,4,5] (.block 0 (.loop [1,3,4,5] (.seq (z [m 43 5,f 44 8 1,l 45 1 44,u 46 .len 45,b 47 .lss 43 46] [1,3,4,5,47] (.cond (.t 47) .skip (.exit 0))) (.seq (.block 1 (.ops [m 50 4,f 51 8 1,l 52 1 51,m 53 5,x 54 1 52 53,l 55 1 54,g 56 39 [.t 50,.t 55],m 4 56] [1,3,4,5])) (.ops [m 48 5,c 49 .add 48 1,m 5 49] [1,3,4,5])))))) (.ops [m 57 3,m 58 4,g 59 37 [.t 57,.c (.int .i64 192),.c (.int .i64 8),.t 58],m 3 59] [3]))) .skip)) (z [m 60 3,m 2 60] [2] .ret)
def t11_35:BC := .seq (z [f 35 7 1,l 36 1 35] [1,3,36] (.cond (.t 36) (.ops [m 37 3,g 38 37 [.t 37,.c (.int .i64 64),.c (.int .i64 6),.c .nils],m 3 38] [1,3]) .skip)) t11_39
def t11_28:BC := .seq (z [f 28 5 1,l 29 1 28] [1,3,29] (.cond (.t 29) (.ops [m 30 3,f 31 6 1,l 32 1 31,g 33 39 [.c .nils,.t 32],g 34 37 [.t 30,.c (.int .i64 64),.c (.int .i64 5),.t 33],m 3 34] [1,3]) .skip)) t11_35
def t11_21:BC := .seq (z [f 21 3 1,l 22 1 21] [1,3,22] (.cond (.t 22) (.ops [m 23 3,f 24 4 1,l 25 1 24,g 26 39 [.c .nils,.t 25],g 27 37 [.t 23,.c (.int .i64 128),.c (.int .i64 4),.t 26],m 3 27] [1,3]) .skip)) t11_28
def b11:BC:=z [⟨some 1,none,.alloc (.box),[.t 0]⟩,k 2 .nils] [1] (z [f 6 0 1,l 7 1 6,u 8 (.conv .u8) 7,⟨some 9,none,.alloc (.mksl 1 1),[.t 8]⟩,g 10 37 [.c .nils,.c (.int .i64 64),.c (.int .i64 1),.t 9],m 3 10] [1,3] (z [m 11 3,f 12 1 1,l 13 1 12,g 14 38 [.t 13],g 15 37 [.t 11,.c (.int .i64 64),.c (.int .i64 2),.t 14],m 3 15] [1,3] (z [m 16 3,f 17 2 1,l 18 1 17,g 19 39 [.c .nils,.t 18],g 20 37 [.t 16,.c (.int .i64 64),.c (.int .i64 3),.t 19],m 3 20] [1,3] t11_21)))
def F11:Fn Tryz.prog 11:=Fn.mkX false b11 [.t 2] 61 Tryz.f11 _ Tryz.func11 (by decide) rfl Tryz.ntmps11 (by kernel_rfl) (by kernel_rfl)
end Go.Am.Tsj
namespace Go.Am
open Go.Proofs Go.Sort
theorem z3z {k:IntKind} {a b c d:Int}:alv (.mksl 1 4) [.int k a,.int k b,.int k c,.int k d]=some (.arr 1 [[.int k a],[.int k b],[.int k c],[.int k d]],fun id => .os id 1 0 4):=by rfl
theorem z53 {k:IntKind} {a b c:Int}:alv (.mksl 1 3) [.int k a,.int k b,.int k c]=some (.arr 1 [[.int k a],[.int k b],[.int k c]],fun id => .os id 1 0 3):=by rfl
theorem zc0 (x:Int):x.fdiv 65536=x / 65536:=Int.fdiv_eq_ediv_of_nonneg _ (by omega)
theorem z9c (x:Int):x.fdiv 256=x / 256:=Int.fdiv_eq_ediv_of_nonneg _ (by omega)
theorem Own.new {esz i:Nat} {s:Store} {L:List (List AV)} (hi:s i=none):Own esz s L (.os i esz 0 L.length) (s.set i (.arr esz L)) := .inr ⟨i,rfl,hi,Store.set_same _ _ _⟩
theorem s39 {s:Store} {L:List Int} {v:AV} (hr:Rd 1 s (L.map cB) v) (hL:L.length≤100000000) (n:Int):ACalls Tryz.prog 39 [v,.int .u32 n] s (fun r s'=>Store.sub s s'∧Own 1 s ((L++b4 n).map cB) r s'):=by
 refine zh Tst.F39 (by simp [Tst.F39,Fn.mkX]) ?_
 simp only [Tst.F39,Fn.mkX,Tst.b39]
 simp only [↓vcPre,↓z0,↓reduceIte,vcPost,vcStd,Nat.reduceEqDiff,reduceCtorEq,Nat.reduceAdd,Nat.reduceLeDiff,Int.reduceLT,Int.reduceLE,↓u_setN]
 refine AllocQ.i0 fun i hi => ?_
 simp only [↓vcPre,↓z0,↓reduceIte,vcPost,vcStd,Nat.reduceEqDiff,reduceCtorEq,Nat.reduceAdd,Nat.reduceLeDiff,Int.reduceLT,Int.reduceLE,↓u_setN]
 have hsi:=Store.sub_set s i (.arr 1 []) hi
 refine Own.appM (τ:=s) hsi (Own.new (L:=[]) hi) (hr.1 _ hsi) (by simp;omega) fun v1 s1 hs1 ho1 => ?_
 simp only [z3z,↓vcPre,↓z0,↓reduceIte,vcPost,vcStd,Nat.reduceEqDiff,reduceCtorEq,Nat.reduceAdd,Nat.reduceLeDiff,Int.reduceLT,Int.reduceLE,↓u_setN]
 refine AllocQ.i0 fun b hb => ?_
 simp only [↓vcPre,↓z0,↓reduceIte,vcPost,vcStd,Nat.reduceEqDiff,reduceCtorEq,Nat.reduceAdd,Nat.reduceLeDiff,Int.reduceLT,Int.reduceLE,↓u_setN]
 have hsb:=Store.sub_set s1 b (.arr 1 [[.int .u8 (IntKind.u8.wrap (shrInt .u32 n 24))],[.int .u8 (IntKind.u8.wrap (shrInt .u32 n 16))],[.int .u8 (IntKind.u8.wrap (shrInt .u32 n 8))],[.int .u8 (IntKind.u8.wrap n)]]) hb
 refine Own.appM (τ:=s) (Store.sub_trans hs1 hsb) (ho1.mono hsb) (zq (Store.set_same _ _ _) rfl) (by simp;omega) fun v2 s2 hs2 ho2 => ?_
 refine EndQ.to _ _ rfl (Store.sub_refl _) ⟨hs2,?_⟩
 simpa [b4,cB,u8w,shrInt,IntKind.bits,z32,zc0,z9c] using ho2
theorem s23 {s:Store} {L:List Int} {v:AV} (hr:Rd 1 s (L.map cB) v) (hL:L.length≤100000000) (n:Int):ACalls Tryz.prog 23 [v,.int .i64 n] s (fun r s'=>Store.sub s s'∧Own 1 s ((L++[n / 256 % 256,n % 256]).map cB) r s'):=by
 refine zh Tst.F23 (by simp [Tst.F23,Fn.mkX]) ?_
 simp only [Tst.F23,Fn.mkX,Tst.b23]
 simp only [↓vcPre,↓z0,↓reduceIte,vcPost,vcStd,Nat.reduceEqDiff,reduceCtorEq,Nat.reduceAdd,Nat.reduceLeDiff,Int.reduceLT,Int.reduceLE,↓u_setN]
 refine AllocQ.i0 fun i hi => ?_
 simp only [↓vcPre,↓z0,↓reduceIte,vcPost,vcStd,Nat.reduceEqDiff,reduceCtorEq,Nat.reduceAdd,Nat.reduceLeDiff,Int.reduceLT,Int.reduceLE,↓u_setN]
 have hsi:=Store.sub_set s i (.arr 1 []) hi
 refine Own.appM (τ:=s) hsi (Own.new (L:=[]) hi) (hr.1 _ hsi) (by simp;omega) fun v1 s1 hs1 ho1 => ?_
 refine AllocQ.i0 fun b hb => ?_
 simp only [↓vcPre,↓z0,↓reduceIte,vcPost,vcStd,Nat.reduceEqDiff,reduceCtorEq,Nat.reduceAdd,Nat.reduceLeDiff,Int.reduceLT,Int.reduceLE,↓u_setN]
 have hsb:=Store.sub_set s1 b (.arr 1 [[.int .u8 (IntKind.u8.wrap (shrInt .i64 n 8))],[.int .u8 (IntKind.u8.wrap n)]]) hb
 refine Own.appM (τ:=s) (Store.sub_trans hs1 hsb) (ho1.mono hsb) (zq (Store.set_same _ _ _) rfl) (by simp;omega) fun v2 s2 hs2 ho2 => ?_
 refine EndQ.to _ _ rfl (Store.sub_refl _) ⟨hs2,?_⟩
 simpa [cB,u8w,shrInt,IntKind.bits,z9c] using ho2
theorem c38 (l:List Seg) (hl:l.length≤10000) (ho:∀ s ∈ l,s.ls.length≤1000):Pur Tryz.prog 38 [.sl 2 (l.map Seg.c)] (.sl 1 ((encPath l).map cB)):=by
 intro σ
 refine zh Tst.F38 (by simp [Tst.F38,Fn.mkX]) ?_
 simp only [Tst.F38,Fn.mkX,Tst.b38]
 have hsz:∀ m:List Seg,(∀ s ∈ m,s.ls.length≤1000)→(encPath m).length≤4002*m.length:=by
  intro m
  induction m with
  | nil=>intro _;simp [encPath]
  | cons s r ih =>
    intro h
    have h1:=ih fun x hx=>h x (by simp [hx])
    have h2:=h s (by simp)
    have h3:=xq s.ls
    simp only [encPath,List.flatMap_cons,List.length_append,encSeg,List.length_cons,List.length_nil] at *
    omega
 simp only [↓vcPre,↓z0,↓reduceIte,vcPost,vcStd,Nat.reduceEqDiff,reduceCtorEq,Nat.reduceAdd,Nat.reduceLeDiff,Int.reduceLT,Int.reduceLE,↓u_setN]
 refine LoopQ.inv (S:=Nat×AV×Store) (fun q=>[(0,.sl 2 (l.map Seg.c)),(3,q.2.1),(4,.int .i64 (q.1:Int))]) (fun q=>q.2.2) (fun q=>q.1≤l.length∧Store.sub σ q.2.2∧Own 1 σ ((encPath (l.take q.1)).map cB) q.2.1 q.2.2) (fun q=>l.length+1 - q.1) (0,.nils,σ) rfl (Store.sub_refl _) ⟨by simp only;omega,Store.sub_refl _,by simpa [encPath] using Own.nil⟩ ?_
 rintro ⟨k,v,s⟩ ⟨hk,hs,hO⟩
 simp only at hk hs hO
 have hlk:=hsz (l.take k) fun s h=>ho s (List.mem_of_mem_take h)
 rw [List.length_take] at hlk
 simp only [↓vcPre,↓z0,↓reduceIte,vcPost,vcStd,Nat.reduceEqDiff,reduceCtorEq,Nat.reduceAdd,Nat.reduceLeDiff,Int.reduceLT,Int.reduceLE,↓u_setN]
 refine ⟨fun c1 => ?_,fun c1 => ?_⟩
 ·have ek:IntKind.i64.wrap ((k:Int)+1)=((k+1:Nat):Int):=by rw [zb (by unfold I64;omega)];omega
  have hls:=ho _ (List.getElem_mem c1)
  refine ⟨c1,c1,by simp [Seg.c],?_⟩
  simp only [Seg.c,↓vcPre,↓z0,↓reduceIte,vcPost,vcStd,Nat.reduceEqDiff,reduceCtorEq,Nat.reduceAdd,Nat.reduceLeDiff,Int.reduceLT,Int.reduceLE,↓u_setN]
  refine AllocQ.i0 fun b hb => ?_
  simp only [↓vcPre,↓z0,↓reduceIte,vcPost,vcStd,Nat.reduceEqDiff,reduceCtorEq,Nat.reduceAdd,Nat.reduceLeDiff,Int.reduceLT,Int.reduceLE,↓u_setN]
  have hsb:=Store.sub_set s b (.arr 1 [[.int .u8 (IntKind.u8.wrap l[k].kind)],[.int .u8 (IntKind.u8.wrap (l[k].ls.length:Int))]]) hb
  refine Own.appM (τ:=σ) (Store.sub_trans hs hsb) (hO.mono hsb) (zq (Store.set_same _ _ _) rfl) (by simp;omega) fun v1 s1 hs1 ho1 => ?_
  refine LoopQ.inv (S:=Nat×AV×Store) (fun q=>[(0,.sl 2 (l.map Seg.c)),(3,q.2.1),(4,.int .i64 (k:Int)),(5,.int .i64 (q.1:Int))]) (fun q=>q.2.2) (fun q=>q.1≤l[k].ls.length∧Store.sub σ q.2.2∧Own 1 σ ((encPath (l.take k)++([l[k].kind % 256,(l[k].ls.length:Int) % 256]++encW (l[k].ls.take q.1))).map cB) q.2.1 q.2.2) (fun q=>l[k].ls.length+1 - q.1) (0,v1,s1) rfl (Store.sub_refl _) ⟨by simp only;omega,hs1,by simpa [encW,cB,u8w] using ho1⟩ ?_
  rintro ⟨j,v2,s2⟩ ⟨hj,hs2,ho2⟩
  simp only at hj hs2 ho2
  have hle:=xq (l[k].ls.take j)
  rw [List.length_take] at hle
  simp only [Seg.c,↓vcPre,↓z0,↓reduceIte,vcPost,vcStd,Nat.reduceEqDiff,reduceCtorEq,Nat.reduceAdd,Nat.reduceLeDiff,Int.reduceLT,Int.reduceLE,↓u_setN]
  refine ⟨c1,fun d1 => ?_,fun d1 => ?_⟩
  ·have ej:IntKind.i64.wrap ((j:Int)+1)=((j+1:Nat):Int):=by rw [zb (by unfold I64;omega)];omega
   refine ⟨c1,d1,by simp [cU],?_⟩
   simp only [cU,↓vcPre,↓z0,↓reduceIte,vcPost,vcStd,Nat.reduceEqDiff,reduceCtorEq,Nat.reduceAdd,Nat.reduceLeDiff,Int.reduceLT,Int.reduceLE,↓u_setN]
   refine (s39 (Rd.own ho2) (by simp only [List.length_append,List.length_cons,List.length_nil];omega) _).Q ?_
   rintro r s3 ⟨hs3,ho3⟩
   simp only [↓vcPre,↓z0,↓reduceIte,vcPost,vcStd,Nat.reduceEqDiff,reduceCtorEq,Nat.reduceAdd,Nat.reduceLeDiff,Int.reduceLT,Int.reduceLE,↓u_setN]
   rw [ej]
   refine NextQ.to (j+1,r,s3) rfl (Store.sub_refl _) (by simp only;omega) ⟨by simp only;omega,Store.sub_trans hs2 hs3,?_⟩
   simp only
   rw [z24 _ _ d1,←List.append_assoc,←List.append_assoc,List.append_assoc (encPath _)]
   exact ho3.weak hs2
  ·have e:l[k].ls.take j=l[k].ls:=List.take_of_length_le (by omega)
   rw [e] at ho2
   rw [ek]
   refine NextQ.to (k+1,v2,s2) rfl (Store.sub_refl _) (by simp only;omega) ⟨by simp only;omega,hs2,?_⟩
   simp only
   rw [z30 _ _ c1]
   exact ho2
 ·have e:l.take k=l:=List.take_of_length_le (by omega)
  rw [e] at hO
  exact EndQ.own rfl hO hs ⟨rfl,rfl⟩
theorem vl (fl kind:Int) (M:List Int) (L:List Int):(L++oneA fl kind M).length≤L.length+4+M.length:=by
 rw [List.length_append];have:=z4x fl kind M;omega
theorem s37 {τ s:Store} (hτ:Store.sub τ s) {L M:List Int} {v wv:AV} (ho:Own 1 τ (L.map cB) v s) (hw:Rd 1 τ (M.map cB) wv) (hL:L.length≤20000000) (hM:M.length≤20000000) (fl k:Int) (hfl:fl=64∨fl=128∨fl=192) (hk:0≤k∧k≤8) :
 ACalls Tryz.prog 37 [v,.int .i64 fl,.int .i64 k,wv] s (fun r s'=>Store.sub τ s'∧Own 1 τ ((L++oneA fl k M).map cB) r s'):=by
 refine zh Tst.F37 (by simp [Tst.F37,Fn.mkX]) ?_
 simp only [Tst.F37,Fn.mkX,Tst.b37]
 have hlen:pv .len [wv]=some (.int .i64 (M.length:Int)):=by rw [hw.2];simp
 have hor:bitInt .or .i64 fl 16=fl+16∧fl % 256=fl∧(fl+16) % 256=fl+16:=by
  rcases hfl with h | h | h <;> rw [h] <;> decide
 have hk8:k % 256=k:=by omega
 simp only [hlen,z53,↓vcPre,↓z0,↓reduceIte,vcPost,vcStd,Nat.reduceEqDiff,reduceCtorEq,Nat.reduceAdd,Nat.reduceLeDiff,Int.reduceLT,Int.reduceLE,↓u_setN]
 refine ⟨fun c1 => ?_,fun c1 => ?_⟩
 ·refine AllocQ.i0 fun b hb => ?_
  rw [hor.1]
  simp only [↓vcPre,↓z0,↓reduceIte,vcPost,vcStd,Nat.reduceEqDiff,reduceCtorEq,Nat.reduceAdd,Nat.reduceLeDiff,Int.reduceLT,Int.reduceLE,↓u_setN]
  have hsb:=Store.sub_set s b (.arr 1 [[.int .u8 (IntKind.u8.wrap (fl+16))],[.int .u8 (IntKind.u8.wrap k)]]) hb
  refine Own.appM (τ:=τ) (Store.sub_trans hτ hsb) (ho.mono hsb) (zq (Store.set_same _ _ _) rfl) (by simp;omega) fun v1 s1 hs1 ho1 => ?_
  simp only [hlen,↓vcPre,↓z0,↓reduceIte,vcPost,vcStd,Nat.reduceEqDiff,reduceCtorEq,Nat.reduceAdd,Nat.reduceLeDiff,Int.reduceLT,Int.reduceLE,↓u_setN]
  have ho1':Own 1 τ ((L++[fl+16,k]).map cB) v1 s1:=by simpa [cB,u8w,hor.2.2,hk8] using ho1
  refine (s23 (Rd.own ho1') (by simp;omega) _).Q ?_
  rintro r s2 ⟨hs2,ho2⟩
  simp only [↓vcPre,↓z0,↓reduceIte,vcPost,vcStd,Nat.reduceEqDiff,reduceCtorEq,Nat.reduceAdd,Nat.reduceLeDiff,Int.reduceLT,Int.reduceLE,↓u_setN]
  have hs2':=Store.sub_trans hs1 hs2
  refine Own.appM (τ:=τ) hs2' (ho2.weak hs1) (hw.1 _ hs2') (by simp;omega) fun v3 s3 hs3 ho3 => ?_
  refine EndQ.to _ _ rfl (Store.sub_refl _) ⟨hs3,?_⟩
  unfold oneA
  rw [if_pos (by omega)]
  rw [←List.map_append] at ho3
  simpa using ho3
 ·refine AllocQ.i0 fun b hb => ?_
  simp only [↓vcPre,↓z0,↓reduceIte,vcPost,vcStd,Nat.reduceEqDiff,reduceCtorEq,Nat.reduceAdd,Nat.reduceLeDiff,Int.reduceLT,Int.reduceLE,↓u_setN]
  have hsb:=Store.sub_set s b (.arr 1 [[.int .u8 (IntKind.u8.wrap fl)],[.int .u8 (IntKind.u8.wrap k)],[.int .u8 (IntKind.u8.wrap (M.length:Int))]]) hb
  refine Own.appM (τ:=τ) (Store.sub_trans hτ hsb) (ho.mono hsb) (zq (Store.set_same _ _ _) rfl) (by simp;omega) fun v1 s1 hs1 ho1 => ?_
  refine Own.appM (τ:=τ) hs1 ho1 (hw.1 _ hs1) (by simp;omega) fun v3 s3 hs3 ho3 => ?_
  refine EndQ.to _ _ rfl (Store.sub_refl _) ⟨hs3,?_⟩
  have e:(M.length:Int) % 256=(M.length:Int):=by omega
  unfold oneA
  rw [if_neg (by omega)]
  simpa [cB,u8w,hor.2.1,hk8,e] using ho3
end Go.Am
namespace Go.Am
open Go.Proofs Go.Sort
def num (l:List Int):Int:=l.foldl (fun a b=>a*256+b) 0
theorem z3h (l:List Int) (x:Int):num (l++[x])=num l*256+x:=by simp [num]
theorem z4w:∀ (l:List Int) (a:Int) (m:Nat),U8s l→0≤a→a<256 ^ m→0≤l.foldl (fun a b=>a*256+b) a∧l.foldl (fun a b=>a*256+b) a<256 ^ (m+l.length)
 | [],a,m,_,h1,h2=>⟨h1,h2⟩
 | x::l,a,m,h,h1,h2=>by
   have hx:=h x (by simp)
   have:=z4w l (a*256+x) (m+1) (fun y hy=>h y (by simp [hy])) (by omega) (by rw [Int.pow_succ];omega)
   simp only [List.foldl_cons,List.length_cons]
   rw [show m+(l.length+1)=m+1+l.length by omega]
   exact this
theorem qt (l:List Int) (h:U8s l):0≤num l∧num l<256 ^ l.length:=by
 have:=z4w l 0 0 h (by omega) (by decide)
 rwa [Nat.zero_add] at this
theorem z3o {n k:Nat} (h:n≤k) (hk:k≤4):(256:Int) ^ n≤256 ^ k:=by
 have h1:n=0∨n=1∨n=2∨n=3∨n=4:=by omega
 have h2:k=0∨k=1∨k=2∨k=3∨k=4:=by omega
 rcases h1 with rfl | rfl | rfl | rfl | rfl <;> rcases h2 with rfl | rfl | rfl | rfl | rfl <;> first | decide | omega
theorem z6w {m d:Nat} (h:d<256):(m*256) ||| d=m*256+d:=by
 have:=Nat.shiftLeft_add_eq_or_of_lt (b:=d) (i:=8) (by omega) m
 rw [Nat.shiftLeft_eq] at this
 exact this.symm
theorem zgd {n c:Int} (h0:0≤n) (h1:n<72057594037927936) (h2:0≤c) (h3:c<256):bitInt .or .u64 (shlInt .u64 n 8) c=n*256+c:=by
 obtain ⟨m,rfl⟩:=Int.eq_ofNat_of_zero_le h0
 obtain ⟨d,rfl⟩:=Int.eq_ofNat_of_zero_le h2
 have e:shlInt .u64 (m:Int) 8=((m*256:Nat):Int):=by
  simp [shlInt,z8u,IntKind.bits];omega
 rw [e]
 show IntKind.u64.wrap (((BitVec.ofInt 64 ((m*256:Nat):Int)) ||| (BitVec.ofInt 64 (d:Int))).toNat:Int)=_
 have e1:(((m*256:Nat):Int) % ((2 ^ 64:Nat):Int)).toNat=m*256:=by omega
 have e2:((d:Int) % ((2 ^ 64:Nat):Int)).toNat=d:=by omega
 rw [BitVec.toNat_or,BitVec.toNat_ofInt,BitVec.toNat_ofInt,e1,e2,z6w (by omega),z8u];omega
theorem zgc {n c:Int} (h0:0≤n) (h1:n<16777216) (h2:0≤c) (h3:c<256):bitInt .or .u32 (shlInt .u32 n 8) c=n*256+c:=by
 obtain ⟨m,rfl⟩:=Int.eq_ofNat_of_zero_le h0
 obtain ⟨d,rfl⟩:=Int.eq_ofNat_of_zero_le h2
 have e:shlInt .u32 (m:Int) 8=((m*256:Nat):Int):=by
  simp [shlInt,z1x,IntKind.bits];omega
 rw [e]
 show IntKind.u32.wrap (((BitVec.ofInt 32 ((m*256:Nat):Int)) ||| (BitVec.ofInt 32 (d:Int))).toNat:Int)=_
 have e1:(((m*256:Nat):Int) % ((2 ^ 32:Nat):Int)).toNat=m*256:=by omega
 have e2:((d:Int) % ((2 ^ 32:Nat):Int)).toNat=d:=by omega
 rw [BitVec.toNat_or,BitVec.toNat_ofInt,BitVec.toNat_ofInt,e1,e2,z6w (by omega),z1x];omega
def rawM (n:Int) (R:List Int) (bad:Bool):List Int×List Int×Bool :=
 if bad=true∨(R.length:Int)<n then ([],R,true) else if n<1 then ([],R,false) else (R.take n.toNat,R.drop n.toNat,false)
def numM (k:Nat) (R:List Int) (bad:Bool):Int×List Int×Bool:=(num (rawM k R bad).1,(rawM k R bad).2)
theorem xe {n:Int} {R:List Int} {bad:Bool} (h:U8s R):U8s (rawM n R bad).1∧U8s (rawM n R bad).2.1:=by
 unfold rawM
 split
 ·exact ⟨fun x hx=>by simp at hx,h⟩
 ·split
  ·exact ⟨fun x hx=>by simp at hx,h⟩
  ·exact ⟨h.take _,h.drop _⟩
theorem rawM_len {n:Int} {R:List Int} {bad:Bool}:(rawM n R bad).2.1.length≤R.length∧(rawM n R bad).1.length≤R.length:=by
 unfold rawM
 split
 ·exact ⟨Nat.le_refl _,by simp⟩
 ·split
  ·exact ⟨Nat.le_refl _,by simp⟩
  ·exact ⟨by simp,by simp;omega⟩
theorem wu {k:Nat} {R:List Int} {bad:Bool}:(rawM k R bad).1.length≤k:=by
 unfold rawM
 split
 ·simp
 ·split
  ·simp
  ·simp;omega
def RP (τ:Store) (id:Nat) (R:List Int) (bad:Bool) (s:Store):Prop:=τ id=none∧Store.sub τ s∧s id=some (.box [.sl 1 (R.map cB),.bool bad])
theorem RP.mono {τ s s':Store} {id:Nat} {R:List Int} {bad:Bool} (h:RP τ id R bad s) (hs:Store.sub s s'):RP τ id R bad s':=⟨h.1,Store.sub_trans h.2.1 hs,hs _ _ h.2.2⟩
theorem RP.set {τ s:Store} {id:Nat} {R R':List Int} {bad bad':Bool} (h:RP τ id R bad s):RP τ id R' bad' (s.set id (.box [.sl 1 (R'.map cB),.bool bad'])):=⟨h.1,z8 h.2.1 h.1,Store.set_same _ _ _⟩
theorem s51 {σ:Store} {M:List Int} {v:AV} (hr:Rd 1 σ (M.map cB) v) (hM:M.length≤1000000000):ACalls Tryz.prog 51 [v] σ (fun r s=>∃ id,r = .ptr id 0∧RP σ id M false s):=by
 refine zh Tst.F51 (by simp [Tst.F51,Fn.mkX]) ?_
 simp only [Tst.F51,Fn.mkX,Tst.b51]
 simp only [↓vcPre,↓z0,↓reduceIte,vcPost,vcStd,Nat.reduceEqDiff,reduceCtorEq,Nat.reduceAdd,Nat.reduceLeDiff,Int.reduceLT,Int.reduceLE,↓u_setN]
 refine (s93 hr hM).Q ?_
 rintro r s ⟨rfl,rfl⟩
 simp only [↓vcPre,↓z0,↓reduceIte,vcPost,vcStd,Nat.reduceEqDiff,reduceCtorEq,Nat.reduceAdd,Nat.reduceLeDiff,Int.reduceLT,Int.reduceLE,↓u_setN]
 refine AllocQ.i0 fun id hid => ?_
 simp only [↓vcPre,↓z0,↓reduceIte,vcPost,vcStd,Nat.reduceEqDiff,reduceCtorEq,Nat.reduceAdd,Nat.reduceLeDiff,Int.reduceLT,Int.reduceLE,↓u_setN]
 exact EndQ.to _ _ rfl (Store.sub_refl _) ⟨id,rfl,hid,Store.sub_set _ _ _ hid,Store.set_same _ _ _⟩
theorem s52 {τ s:Store} {id:Nat} {R:List Int} {bad:Bool} (h:RP τ id R bad s) (hR:R.length≤1000000000) (n:Int):ACalls Tryz.prog 52 [.ptr id 0,.int .i64 n] s (fun r s'=>r = .sl 1 ((rawM n R bad).1.map cB)∧RP τ id (rawM n R bad).2.1 (rawM n R bad).2.2 s'):=by
 refine zh Tst.F52 (by simp [Tst.F52,Fn.mkX]) ?_
 simp only [Tst.F52,Fn.mkX,Tst.b52]
 have hs:=h.2.2
 cases bad with
 | true =>
   simp only [hs,↓vcPre,↓z0,↓reduceIte,vcPost,vcStd,Nat.reduceEqDiff,reduceCtorEq,Nat.reduceAdd,Nat.reduceLeDiff,Int.reduceLT,Int.reduceLE,↓u_setN]
   have e:rawM n R true=([],R,true):=by simp [rawM]
   rw [e]
   exact EndQ.nil1 1 _ rfl (Store.sub_refl _) ⟨rfl,h.set⟩
 | false =>
   by_cases g1:(R.length:Int)<n
   ·simp only [hs,g1,↓vcPre,↓z0,↓reduceIte,vcPost,vcStd,Nat.reduceEqDiff,reduceCtorEq,Nat.reduceAdd,Nat.reduceLeDiff,Int.reduceLT,Int.reduceLE,↓u_setN]
    have e:rawM n R false=([],R,true):=by simp [rawM,g1]
    rw [e]
    exact EndQ.nil1 1 _ rfl (Store.sub_refl _) ⟨rfl,h.set⟩
   ·simp only [hs,g1,↓vcPre,↓z0,↓reduceIte,vcPost,vcStd,Nat.reduceEqDiff,reduceCtorEq,Nat.reduceAdd,Nat.reduceLeDiff,Int.reduceLT,Int.reduceLE,↓u_setN]
    refine ⟨fun g2 => ?_,fun g2 => ?_⟩
    ·have e:rawM n R false=([],R,false):=by simp [rawM,g1,g2]
     rw [e]
     exact EndQ.nil1 1 _ rfl (Store.sub_refl _) ⟨rfl,h.set⟩
    ·have e:rawM n R false=(R.take n.toNat,R.drop n.toNat,false):=by simp [rawM,g1,g2]
     rw [e]
     simp only [Option.getD_some,↓vcPre,↓z0,↓reduceIte,vcPost,vcStd,Nat.reduceEqDiff,reduceCtorEq,Nat.reduceAdd,Nat.reduceLeDiff,Int.reduceLT,Int.reduceLE,↓u_setN]
     refine ⟨by omega,?_⟩
     have ht:List.drop (Int.toNat 0) (List.take n.toNat (R.map cB))=(R.take n.toNat).map cB:=by rw [List.map_take];rfl
     rw [ht]
     refine (s93 Rd.sl (by rw [List.length_take];omega)).Q ?_
     rintro r s' ⟨rfl,rfl⟩
     simp only [Option.getD_none,↓vcPre,↓z0,↓reduceIte,vcPost,vcStd,Nat.reduceEqDiff,reduceCtorEq,Nat.reduceAdd,Nat.reduceLeDiff,Int.reduceLT,Int.reduceLE,↓u_setN]
     refine ⟨by omega,?_⟩
     have hd:List.drop n.toNat (List.take R.length (R.map cB))=(R.drop n.toNat).map cB:=by
      rw [List.take_of_length_le (by simp),List.map_drop]
     rw [hd,Store.set_set]
     exact EndQ.to _ _ rfl (Store.sub_refl _) ⟨rfl,h.set⟩
theorem s54 {τ s:Store} {id:Nat} {R:List Int} {bad:Bool} (h:RP τ id R bad s):ACalls Tryz.prog 54 [.ptr id 0] s (fun r s'=>s'=s∧r = .int .i64 (if bad then 0 else (R.length:Int))):=by
 refine zh Tst.F54 (by simp [Tst.F54,Fn.mkX]) ?_
 simp only [Tst.F54,Fn.mkX,Tst.b54]
 have hs:=h.2.2
 cases bad <;> simp only [hs,↓vcPre,↓z0,↓reduceIte,vcPost,vcStd,Nat.reduceEqDiff,reduceCtorEq,Nat.reduceAdd,Nat.reduceLeDiff,Int.reduceLT,Int.reduceLE,↓u_setN] <;> exact EndQ.to _ _ rfl (Store.sub_refl _) ⟨rfl,rfl⟩
theorem s55 {τ s:Store} {id:Nat} {R:List Int} {bad:Bool} (h:RP τ id R bad s):ACalls Tryz.prog 55 [.ptr id 0] s (fun r s'=>s'=s∧r = .bool (!bad)):=by
 refine zh Tst.F55 (by simp [Tst.F55,Fn.mkX]) ?_
 simp only [Tst.F55,Fn.mkX,Tst.b55]
 have hs:=h.2.2
 simp only [hs,↓vcPre,↓z0,↓reduceIte,vcPost,vcStd,Nat.reduceEqDiff,reduceCtorEq,Nat.reduceAdd,Nat.reduceLeDiff,Int.reduceLT,Int.reduceLE,↓u_setN]
 exact EndQ.to _ _ rfl (Store.sub_refl _) ⟨rfl,rfl⟩
theorem s94 {τ s:Store} {id:Nat} {R:List Int} {bad:Bool} (h:RP τ id R bad s) (hR:R.length≤1000000000) (hu:U8s R) (k:Nat) (hk:k≤4):ACalls Tryz.prog 94 [.ptr id 0,.int .i64 (k:Int)] s (fun r s'=>r = .int .u64 (numM k R bad).1∧RP τ id (numM k R bad).2.1 (numM k R bad).2.2 s'):=by
 refine zh Tst.F94 (by simp [Tst.F94,Fn.mkX]) ?_
 simp only [Tst.F94,Fn.mkX,Tst.b94]
 simp only [↓vcPre,↓z0,↓reduceIte,vcPost,vcStd,Nat.reduceEqDiff,reduceCtorEq,Nat.reduceAdd,Nat.reduceLeDiff,Int.reduceLT,Int.reduceLE,↓u_setN]
 refine (s52 h hR _).Q ?_
 rintro r s' ⟨rfl,h'⟩
 have hx:=(xe (n:=(k:Int)) (bad:=bad) hu).1
 have hl:=wu (k:=k) (R:=R) (bad:=bad)
 unfold numM
 generalize rawM (k:Int) R bad=q at h' hx hl ⊢
 simp only [↓vcPre,↓z0,↓reduceIte,vcPost,vcStd,Nat.reduceEqDiff,reduceCtorEq,Nat.reduceAdd,Nat.reduceLeDiff,Int.reduceLT,Int.reduceLE,↓u_setN]
 refine LoopQ.inv (S:=Nat) (fun j=>[(5,.int .u64 (num (q.1.take j))),(10,.sl 1 (q.1.map cB)),(11,.int .i64 (q.1.length:Int)),(12,.int .i64 (j:Int))]) (fun _=>s') (fun j=>j≤q.1.length) (fun j=>q.1.length+1 - j) 0 rfl (Store.sub_refl _) (by omega) ?_
 intro j hj
 simp only [↓vcPre,↓z0,↓reduceIte,vcPost,vcStd,Nat.reduceEqDiff,reduceCtorEq,Nat.reduceAdd,Nat.reduceLeDiff,Int.reduceLT,Int.reduceLE,↓u_setN]
 refine ⟨fun c1 => ?_,fun c1 => ?_⟩
 ·have ej:IntKind.i64.wrap ((j:Int)+1)=((j+1:Nat):Int):=by rw [zb (by unfold I64;omega)];omega
  refine ⟨c1,by simp [cB],?_⟩
  simp only [cB,↓vcPre,↓z0,↓reduceIte,vcPost,vcStd,Nat.reduceEqDiff,reduceCtorEq,Nat.reduceAdd,Nat.reduceLeDiff,Int.reduceLT,Int.reduceLE,↓u_setN]
  have hb:=qt _ (hx.take j)
  have h8:=hx _ (List.getElem_mem c1)
  have hp:(256:Int) ^ (q.1.take j).length≤256 ^ 4:=z3o (by rw [List.length_take];omega) (by omega)
  have hw:IntKind.u64.wrap q.1[j]=q.1[j]:=by rw [z8u];omega
  rw [ej,hw,zgd hb.1 (by omega) h8.1 h8.2]
  refine NextQ.to (j+1) ?_ (Store.sub_refl _) (by omega) (by omega)
  rw [List.take_add_one,List.getElem?_eq_getElem c1,Option.toList_some,z3h]
 ·have e:q.1.take j=q.1:=List.take_of_length_le (by omega)
  rw [e]
  exact EndQ.to _ _ rfl (Store.sub_refl _) ⟨rfl,h'⟩
theorem x5 {k:Nat} (hk:k≤4) {R:List Int} {bad:Bool} (hu:U8s R):0≤(numM k R bad).1∧(numM k R bad).1<4294967296:=by
 have hx:=(xe (n:=(k:Int)) (bad:=bad) hu).1
 have hl:=wu (k:=k) (R:=R) (bad:=bad)
 have hb:=qt _ hx
 have hp:(256:Int) ^ (rawM k R bad).1.length≤256 ^ 4:=z3o (by omega) (by omega)
 unfold numM
 simp only
 omega
theorem s95 {τ s:Store} {id:Nat} {R:List Int} {bad:Bool} (h:RP τ id R bad s) (hR:R.length≤1000000000) (hu:U8s R):ACalls Tryz.prog 95 [.ptr id 0] s (fun r s'=>r = .int .i64 (numM 1 R bad).1∧RP τ id (numM 1 R bad).2.1 (numM 1 R bad).2.2 s'):=by
 refine zh Tst.F95 (by simp [Tst.F95,Fn.mkX]) ?_
 simp only [Tst.F95,Fn.mkX,Tst.b95]
 simp only [↓vcPre,↓z0,↓reduceIte,vcPost,vcStd,Nat.reduceEqDiff,reduceCtorEq,Nat.reduceAdd,Nat.reduceLeDiff,Int.reduceLT,Int.reduceLE,↓u_setN]
 refine (s94 h hR hu 1 (by omega)).Q ?_
 rintro r s' ⟨rfl,h'⟩
 have hb:=x5 (k:=1) (by omega) (bad:=bad) hu
 simp only [↓vcPre,↓z0,↓reduceIte,vcPost,vcStd,Nat.reduceEqDiff,reduceCtorEq,Nat.reduceAdd,Nat.reduceLeDiff,Int.reduceLT,Int.reduceLE,↓u_setN]
 exact EndQ.to _ _ rfl (Store.sub_refl _) ⟨by rw [zb (by unfold I64;omega)],h'⟩
theorem s53 {τ s:Store} {id:Nat} {R:List Int} {bad:Bool} (h:RP τ id R bad s) (hR:R.length≤1000000000) (hu:U8s R):ACalls Tryz.prog 53 [.ptr id 0] s (fun r s'=>r = .int .i64 (numM 2 R bad).1∧RP τ id (numM 2 R bad).2.1 (numM 2 R bad).2.2 s'):=by
 refine zh Tst.F53 (by simp [Tst.F53,Fn.mkX]) ?_
 simp only [Tst.F53,Fn.mkX,Tst.b53]
 simp only [↓vcPre,↓z0,↓reduceIte,vcPost,vcStd,Nat.reduceEqDiff,reduceCtorEq,Nat.reduceAdd,Nat.reduceLeDiff,Int.reduceLT,Int.reduceLE,↓u_setN]
 refine (s94 h hR hu 2 (by omega)).Q ?_
 rintro r s' ⟨rfl,h'⟩
 have hb:=x5 (k:=2) (by omega) (bad:=bad) hu
 simp only [↓vcPre,↓z0,↓reduceIte,vcPost,vcStd,Nat.reduceEqDiff,reduceCtorEq,Nat.reduceAdd,Nat.reduceLeDiff,Int.reduceLT,Int.reduceLE,↓u_setN]
 exact EndQ.to _ _ rfl (Store.sub_refl _) ⟨by rw [zb (by unfold I64;omega)],h'⟩
theorem z8o {τ s:Store} {id:Nat} {R:List Int} {bad:Bool} (h:RP τ id R bad s) (hR:R.length≤1000000000) (hu:U8s R):ACalls Tryz.prog 132 [.ptr id 0] s (fun r s'=>r = .int .u32 (numM 4 R bad).1∧RP τ id (numM 4 R bad).2.1 (numM 4 R bad).2.2 s'):=by
 refine zh Tst.F132 (by simp [Tst.F132,Fn.mkX]) ?_
 simp only [Tst.F132,Fn.mkX,Tst.b132]
 simp only [↓vcPre,↓z0,↓reduceIte,vcPost,vcStd,Nat.reduceEqDiff,reduceCtorEq,Nat.reduceAdd,Nat.reduceLeDiff,Int.reduceLT,Int.reduceLE,↓u_setN]
 refine (s94 h hR hu 4 (by omega)).Q ?_
 rintro r s' ⟨rfl,h'⟩
 have hb:=x5 (k:=4) (by omega) (bad:=bad) hu
 simp only [↓vcPre,↓z0,↓reduceIte,vcPost,vcStd,Nat.reduceEqDiff,reduceCtorEq,Nat.reduceAdd,Nat.reduceLeDiff,Int.reduceLT,Int.reduceLE,↓u_setN]
 exact EndQ.to _ _ rfl (Store.sub_refl _) ⟨by rw [z1x,Int.emod_eq_of_lt hb.1 hb.2],h'⟩
def RF (τ:Store) (id:Nat) (v:AV) (B:List Int) (at_:Nat) (lack:Bool) (s:Store):Prop:=τ id=none∧Store.sub τ s∧s id=some (.box [v,.int .i64 (at_:Int),.bool lack])∧Rd 1 τ (B.map cB) v∧at_≤B.length
theorem RF.mono {τ s s':Store} {id:Nat} {v:AV} {B:List Int} {at_:Nat} {lack:Bool} (h:RF τ id v B at_ lack s) (hs:Store.sub s s'):RF τ id v B at_ lack s':=⟨h.1,Store.sub_trans h.2.1 hs,hs _ _ h.2.2.1,h.2.2.2⟩
theorem RF.set {τ s:Store} {id:Nat} {v:AV} {B:List Int} {at_ at':Nat} {lack lack':Bool} (h:RF τ id v B at_ lack s) (ha:at'≤B.length):RF τ id v B at' lack' (s.set id (.box [v,.int .i64 (at':Int),.bool lack'])):=⟨h.1,z8 h.2.1 h.1,Store.set_same _ _ _,h.2.2.2.1,ha⟩
theorem Rd.slice {esz:Nat} {τ:Store} {L:List (List AV)} {v:AV} (h:Rd esz τ L v) {lo hi:Nat} (h1:lo≤hi) (h2:hi≤L.length):∃ v',pSlice esz v (lo:Int) (some (hi:Int))=some v'∧Rd esz τ ((L.take hi).drop lo) v':=by
 rcases h.cases with ⟨rfl,h0⟩ | rfl | ⟨g,o,n,rfl⟩
 ·subst h0
  simp only [List.length_nil] at h2
  refine ⟨.nils,by simp [pSlice];omega,by simpa using Rd.nils⟩
 ·refine ⟨.sl esz ((L.take hi).drop lo),by simp [pSlice];omega,Rd.sl⟩
 ·have hl:=h.2
  simp only [pv,pLen,Option.some.injEq,AV.int.injEq,true_and] at hl
  refine ⟨.os g esz (o+lo) (hi - lo),by simp [pSlice];omega,fun t ht => ?_,by simp [pv,pLen];omega⟩
  have h3:=h.1 t ht
  unfold slc at h3 ⊢
  simp only at h3 ⊢
  split at h3
  ·rename_i e2 es hg
   split at h3
   ·rename_i e;obtain ⟨_,rfl,hle⟩:=e
    have h4:=Option.some.inj h3
    have e3:List.drop lo (List.take n (List.drop o es))=List.take (n - lo) (List.drop (o+lo) es):=by rw [List.drop_take,List.drop_drop]
    rw [if_pos ⟨trivial,rfl,by omega⟩,←h4,List.drop_take,e3,List.take_take,Nat.min_eq_left (by omega)]
   ·cases h3
  ·cases h3
theorem Rd.isTup {esz:Nat} {τ:Store} {L:List (List AV)} {v:AV} (h:Rd esz τ L v):v.isTup=false∧v.cells=[v]:=by
 rcases h.cases with ⟨rfl,_⟩ | rfl | ⟨g,o,n,rfl⟩ <;> exact ⟨rfl,rfl⟩
theorem zcc {τ s:Store} {id:Nat} {v:AV} {B:List Int} {at_:Nat} {lack:Bool} (h:RF τ id v B at_ lack s) (hB:B.length≤1000000000) (n:Int) (hn:n≤1000000000000):ACalls Tryz.prog 84 [.ptr id 0,.int .i64 n] s (fun r s'=>Own 1 s ((rawM n (B.drop at_) lack).1.map cB) r s'∧(∀ q o,q≠id→s q=some o→s' q=some o)∧RF τ id v B (at_+(rawM n (B.drop at_) lack).1.length) (rawM n (B.drop at_) lack).2.2 s'):=by
 refine zh Tst.F84 (by simp [Tst.F84,Fn.mkX]) ?_
 simp only [Tst.F84,Fn.mkX,Tst.b84]
 have hs:=h.2.2.1
 have hr:=h.2.2.2.1
 have hat:=h.2.2.2.2
 have hlen:pv .len [v]=some (.int .i64 (B.length:Int)):=by rw [hr.2];simp
 have hdl:(B.drop at_).length=B.length - at_:=List.length_drop
 cases lack with
 | true =>
   simp only [hs,↓vcPre,↓z0,↓reduceIte,vcPost,vcStd,Nat.reduceEqDiff,reduceCtorEq,Nat.reduceAdd,Nat.reduceLeDiff,Int.reduceLT,Int.reduceLE,↓u_setN]
   have e:rawM n (B.drop at_) true=([],B.drop at_,true):=by simp [rawM]
   rw [e]
   exact EndQ.to _ _ rfl (Store.sub_refl _) ⟨Own.nil,fun _ _ _ h=>h,h⟩
 | false =>
   simp only [hs,↓vcPre,↓z0,↓reduceIte,vcPost,vcStd,Nat.reduceEqDiff,reduceCtorEq,Nat.reduceAdd,Nat.reduceLeDiff,Int.reduceLT,Int.reduceLE,↓u_setN]
   refine ⟨fun g1 => ?_,fun g1 => ?_⟩
   ·have e:rawM n (B.drop at_) false=([],B.drop at_,false):=by
     unfold rawM;rw [if_neg (by simp;omega),if_pos g1]
    rw [e]
    exact EndQ.to _ _ rfl (Store.sub_refl _) ⟨Own.nil,fun _ _ _ h=>h,h⟩
   ·simp only [hlen,↓vcPre,↓z0,↓reduceIte,vcPost,vcStd,Nat.reduceEqDiff,reduceCtorEq,Nat.reduceAdd,Nat.reduceLeDiff,Int.reduceLT,Int.reduceLE,↓u_setN]
    have ew:IntKind.i64.wrap ((B.length:Int) - (at_:Int))=(B.length:Int) - at_:=zb (by unfold I64;omega)
    rw [ew]
    refine ⟨fun g2 => ?_,fun g2 => ?_⟩
    ·have e:rawM n (B.drop at_) false=([],B.drop at_,true):=by
      unfold rawM;rw [if_pos (by right;omega)]
     rw [e]
     exact EndQ.to _ _ rfl (Store.sub_refl _) ⟨Own.nil,fun q o hq h=>by rw [Store.set_ne _ _ hq];exact h,h.set hat⟩
    ·have e:rawM n (B.drop at_) false=((B.drop at_).take n.toNat,(B.drop at_).drop n.toNat,false):=by
      unfold rawM;rw [if_neg (by simp;omega),if_neg g1]
     rw [e]
     have ea:IntKind.i64.wrap ((at_:Int)+n)=((at_+n.toNat:Nat):Int):=by rw [zb (by unfold I64;omega)];omega
     rw [ea]
     obtain ⟨v',hv',hr'⟩:=hr.slice (lo:=at_) (hi:=at_+n.toNat) (by omega) (by simp;omega)
     rw [hv',ym]
     refine AllocQ.i0 fun i hi => ?_
     have hii:¬ id=i:=fun e=>by rw [e,hi] at hs;cases hs
     have hx:(List.drop at_ (List.take (at_+n.toNat) (B.map cB)))=((B.drop at_).take n.toNat).map cB:=by
      rw [List.drop_take,Nat.add_sub_cancel_left,List.map_take,List.map_drop]
     rw [hx] at hr'
     have hsi:=Store.sub_set s i (.arr 1 []) hi
     have hτi:=zj h.2.1 hi
     simp only [↓vcPre,↓z0,↓reduceIte,vcPost,vcStd,Nat.reduceEqDiff,reduceCtorEq,Nat.reduceAdd,Nat.reduceLeDiff,Int.reduceLT,Int.reduceLE,↓u_setN]
     refine xh (zq (Store.set_same _ _ _) rfl) (hr'.1 _ (Store.sub_trans h.2.1 hsi)) (by simp;omega) fun j hj => ?_
     have hji:¬ j=i:=fun e=>by rw [e,Store.set_same] at hj;cases hj
     have hjd:¬ id=j:=fun e=>by rw [e] at hs;rw [Store.set_ne _ _ hji] at hj;rw [hj] at hs;cases hs
     have hsj:s j=none:=by rw [Store.set_ne _ _ hji] at hj;exact hj
     simp only [List.nil_append,List.length_nil,Nat.zero_add]
     simp only [hjd,hii,hs,Store.set_ne _ _ hjd,Store.del_ne _ hii,Store.set_ne _ _ hii,↓vcPre,↓z0,↓reduceIte,vcPost,vcStd,Nat.reduceEqDiff,reduceCtorEq,Nat.reduceAdd,Nat.reduceLeDiff,Int.reduceLT,Int.reduceLE,↓u_setN]
     rw [ea]
     have hT:=h.set (lack':=false) (at':=at_+n.toNat) (by omega)
     have el:((B.drop at_).take n.toNat).length=n.toNat:=by rw [List.length_take];omega
     have hsub:∀ q o,q≠id→s q=some o→(((s.set i (.arr 1 [])).del i).set j (.arr 1 (((B.drop at_).take n.toNat).map cB))).set id (.box [v,.int .i64 ((at_+n.toNat:Nat):Int),.bool false]) q=some o:=fun q o hq h=>by
      have hqj:q≠j:=fun e=>by rw [e,hsj] at h;cases h
      have hqi:q≠i:=fun e=>by rw [e,hi] at h;cases h
      rw [Store.set_ne _ _ hq,Store.set_ne _ _ hqj,Store.del_ne _ hqi,Store.set_ne _ _ hqi];exact h
     refine EndQ.to _ _ rfl (Store.sub_refl _) ⟨.inr ⟨j,by simp,hsj,?_⟩,hsub,?_⟩
     ·rw [Store.set_ne _ _ (fun e=>hjd e.symm),Store.set_same]
     ·simp only [el]
      refine ⟨h.1,fun q o hq => ?_,Store.set_same _ _ _,h.2.2.2.1,by omega⟩
      have hqd:q≠id:=fun e=>by rw [e,h.1] at hq;cases hq
      exact hsub q o hqd (h.2.1 _ _ hq)
theorem s84 {τ s:Store} {id:Nat} {v:AV} {B:List Int} {at_:Nat} {lack:Bool} (h:RF τ id v B at_ lack s) (hB:B.length≤1000000000) (n:Int) (hn:n≤1000000000000):ACalls Tryz.prog 84 [.ptr id 0,.int .i64 n] s (fun r s'=>r = .sl 1 ((rawM n (B.drop at_) lack).1.map cB)∧RF τ id v B (at_+(rawM n (B.drop at_) lack).1.length) (rawM n (B.drop at_) lack).2.2 s'):=by
 refine (zcc h hB n hn).weakRes ?_
 rintro r s' ⟨ho,_,hf⟩
 rcases ho with ⟨h1,rfl⟩ | ⟨g,rfl,hg,hh⟩
 ·refine Weak.of_one (WeakL.nil 0 1 rfl (WeakL.pure ⟨_,rfl,?_,hf⟩))
  rw [h1]
 ·refine Weak.of_one (WeakL.freeze 0 rfl hh (by omega) (WeakL.pure ⟨_,rfl,?_,?_⟩))
  ·rw [List.drop_zero,List.take_of_length_le (Nat.le_refl _)]
  ·have hgi:¬ id=g:=fun e=>by rw [e] at h;rw [h.2.2.1] at hg;cases hg
   exact ⟨hf.1,sub_del hf.2.1 (zj h.2.1 hg),by rw [Store.del_ne _ hgi];exact hf.2.2.1,hf.2.2.2⟩
theorem RF.left {τ s:Store} {id:Nat} {v:AV} {B:List Int} {at_:Nat} {lack:Bool} (h:RF τ id v B at_ lack s):(B.drop at_).length=B.length - at_:=List.length_drop
theorem s81 {τ s:Store} {id:Nat} {v:AV} {B:List Int} {at_:Nat} {lack:Bool} (h:RF τ id v B at_ lack s) (hB:B.length≤1000000000):ACalls Tryz.prog 81 [.ptr id 0] s (fun r s'=>s'=s∧r = .int .i64 (if lack then 0 else ((B.drop at_).length:Int))):=by
 refine zh Tst.F81 (by simp [Tst.F81,Fn.mkX]) ?_
 simp only [Tst.F81,Fn.mkX,Tst.b81]
 have hs:=h.2.2.1
 have hr:=h.2.2.2.1
 have hat:=h.2.2.2.2
 have hl:=h.left
 have hlen:pv .len [v]=some (.int .i64 (B.length:Int)):=by rw [hr.2];simp
 cases lack with
 | true=>simp only [hs,↓vcPre,↓z0,↓reduceIte,vcPost,vcStd,Nat.reduceEqDiff,reduceCtorEq,Nat.reduceAdd,Nat.reduceLeDiff,Int.reduceLT,Int.reduceLE,↓u_setN];exact EndQ.to _ _ rfl (Store.sub_refl _) ⟨rfl,rfl⟩
 | false =>
   simp only [hs,hlen,↓vcPre,↓z0,↓reduceIte,vcPost,vcStd,Nat.reduceEqDiff,reduceCtorEq,Nat.reduceAdd,Nat.reduceLeDiff,Int.reduceLT,Int.reduceLE,↓u_setN]
   rw [zb (by unfold I64;omega)]
   refine EndQ.to _ _ rfl (Store.sub_refl _) ⟨rfl,?_⟩
   rw [hl,if_neg (by simp)]
   congr 1;omega
theorem xu {n:Int} {R:List Int} {bad:Bool}:(rawM n R bad).2.1=R.drop (rawM n R bad).1.length:=by
 unfold rawM
 split
 ·rfl
 ·split
  ·rfl
  ·simp only [List.length_take];congr 1;omega
theorem z8n {τ s:Store} {id:Nat} {v:AV} {B:List Int} {at_:Nat} {lack:Bool} (h:RF τ id v B at_ lack s) (hB:B.length≤1000000000) (hu:U8s B) (k:Nat) (hk:k≤4):ACalls Tryz.prog 125 [.ptr id 0,.int .i64 (k:Int)] s (fun r s'=>r = .int .u32 (numM k (B.drop at_) lack).1∧RF τ id v B (at_+(rawM k (B.drop at_) lack).1.length) (numM k (B.drop at_) lack).2.2 s'):=by
 refine zh Tst.F125 (by simp [Tst.F125,Fn.mkX]) ?_
 simp only [Tst.F125,Fn.mkX,Tst.b125]
 simp only [↓vcPre,↓z0,↓reduceIte,vcPost,vcStd,Nat.reduceEqDiff,reduceCtorEq,Nat.reduceAdd,Nat.reduceLeDiff,Int.reduceLT,Int.reduceLE,↓u_setN]
 refine (s84 h hB _ (by omega)).Q ?_
 rintro r s' ⟨rfl,h'⟩
 have hx:=(xe (n:=(k:Int)) (bad:=lack) (hu.drop at_)).1
 have hl:=wu (k:=k) (R:=B.drop at_) (bad:=lack)
 unfold numM
 generalize rawM (k:Int) (B.drop at_) lack=q at h' hx hl ⊢
 simp only [↓vcPre,↓z0,↓reduceIte,vcPost,vcStd,Nat.reduceEqDiff,reduceCtorEq,Nat.reduceAdd,Nat.reduceLeDiff,Int.reduceLT,Int.reduceLE,↓u_setN]
 refine LoopQ.inv (S:=Nat) (fun j=>[(5,.sl 1 (q.1.map cB)),(6,.int .u32 (num (q.1.take j))),(7,.int .i64 (j:Int))]) (fun _=>s') (fun j=>j≤q.1.length) (fun j=>q.1.length+1 - j) 0 rfl (Store.sub_refl _) (by omega) ?_
 intro j hj
 simp only [↓vcPre,↓z0,↓reduceIte,vcPost,vcStd,Nat.reduceEqDiff,reduceCtorEq,Nat.reduceAdd,Nat.reduceLeDiff,Int.reduceLT,Int.reduceLE,↓u_setN]
 refine ⟨fun c1 => ?_,fun c1 => ?_⟩
 ·have ej:IntKind.i64.wrap ((j:Int)+1)=((j+1:Nat):Int):=by rw [zb (by unfold I64;omega)];omega
  refine ⟨c1,by simp [cB],?_⟩
  simp only [cB,↓vcPre,↓z0,↓reduceIte,vcPost,vcStd,Nat.reduceEqDiff,reduceCtorEq,Nat.reduceAdd,Nat.reduceLeDiff,Int.reduceLT,Int.reduceLE,↓u_setN]
  have hb:=qt _ (hx.take j)
  have h8:=hx _ (List.getElem_mem c1)
  have hp:(256:Int) ^ (q.1.take j).length≤256 ^ 3:=z3o (by rw [List.length_take];omega) (by omega)
  have hw:IntKind.u32.wrap q.1[j]=q.1[j]:=by rw [z1x];omega
  rw [ej,hw,zgc hb.1 (by omega) h8.1 h8.2]
  refine NextQ.to (j+1) ?_ (Store.sub_refl _) (by omega) (by omega)
  rw [List.take_add_one,List.getElem?_eq_getElem c1,Option.toList_some,z3h]
 ·have e:q.1.take j=q.1:=List.take_of_length_le (by omega)
  rw [e]
  exact EndQ.to _ _ rfl (Store.sub_refl _) ⟨rfl,h'⟩
theorem s82 {τ s:Store} {id:Nat} {v:AV} {B:List Int} {at_:Nat} {lack:Bool} (h:RF τ id v B at_ lack s) (hB:B.length≤1000000000) (hu:U8s B):ACalls Tryz.prog 82 [.ptr id 0] s (fun r s'=>r = .int .i64 (numM 1 (B.drop at_) lack).1∧RF τ id v B (at_+(rawM (1:Nat) (B.drop at_) lack).1.length) (numM 1 (B.drop at_) lack).2.2 s'):=by
 refine zh Tst.F82 (by simp [Tst.F82,Fn.mkX]) ?_
 simp only [Tst.F82,Fn.mkX,Tst.b82]
 simp only [↓vcPre,↓z0,↓reduceIte,vcPost,vcStd,Nat.reduceEqDiff,reduceCtorEq,Nat.reduceAdd,Nat.reduceLeDiff,Int.reduceLT,Int.reduceLE,↓u_setN]
 refine (z8n h hB hu 1 (by omega)).Q ?_
 rintro r s' ⟨rfl,h'⟩
 have hb:=x5 (k:=1) (by omega) (bad:=lack) (hu.drop at_)
 simp only [↓vcPre,↓z0,↓reduceIte,vcPost,vcStd,Nat.reduceEqDiff,reduceCtorEq,Nat.reduceAdd,Nat.reduceLeDiff,Int.reduceLT,Int.reduceLE,↓u_setN]
 exact EndQ.to _ _ rfl (Store.sub_refl _) ⟨by rw [zb (by unfold I64;omega)],h'⟩
theorem s83 {τ s:Store} {id:Nat} {v:AV} {B:List Int} {at_:Nat} {lack:Bool} (h:RF τ id v B at_ lack s) (hB:B.length≤1000000000) (hu:U8s B):ACalls Tryz.prog 83 [.ptr id 0] s (fun r s'=>r = .int .i64 (numM 2 (B.drop at_) lack).1∧RF τ id v B (at_+(rawM (2:Nat) (B.drop at_) lack).1.length) (numM 2 (B.drop at_) lack).2.2 s'):=by
 refine zh Tst.F83 (by simp [Tst.F83,Fn.mkX]) ?_
 simp only [Tst.F83,Fn.mkX,Tst.b83]
 simp only [↓vcPre,↓z0,↓reduceIte,vcPost,vcStd,Nat.reduceEqDiff,reduceCtorEq,Nat.reduceAdd,Nat.reduceLeDiff,Int.reduceLT,Int.reduceLE,↓u_setN]
 refine (z8n h hB hu 2 (by omega)).Q ?_
 rintro r s' ⟨rfl,h'⟩
 have hb:=x5 (k:=2) (by omega) (bad:=lack) (hu.drop at_)
 simp only [↓vcPre,↓z0,↓reduceIte,vcPost,vcStd,Nat.reduceEqDiff,reduceCtorEq,Nat.reduceAdd,Nat.reduceLeDiff,Int.reduceLT,Int.reduceLE,↓u_setN]
 exact EndQ.to _ _ rfl (Store.sub_refl _) ⟨by rw [zb (by unfold I64;omega)],h'⟩
theorem zc8 {τ s:Store} {id:Nat} {v:AV} {B:List Int} {at_:Nat} {lack:Bool} (h:RF τ id v B at_ lack s) (hB:B.length≤1000000000) (hu:U8s B):ACalls Tryz.prog 127 [.ptr id 0] s (fun r s'=>r = .int .u32 (numM 4 (B.drop at_) lack).1∧RF τ id v B (at_+(rawM (4:Nat) (B.drop at_) lack).1.length) (numM 4 (B.drop at_) lack).2.2 s'):=by
 refine zh Tst.F127 (by simp [Tst.F127,Fn.mkX]) ?_
 simp only [Tst.F127,Fn.mkX,Tst.b127]
 simp only [↓vcPre,↓z0,↓reduceIte,vcPost,vcStd,Nat.reduceEqDiff,reduceCtorEq,Nat.reduceAdd,Nat.reduceLeDiff,Int.reduceLT,Int.reduceLE,↓u_setN]
 refine (z8n h hB hu 4 (by omega)).Q ?_
 rintro r s' ⟨rfl,h'⟩
 simp only [↓vcPre,↓z0,↓reduceIte,vcPost,vcStd,Nat.reduceEqDiff,reduceCtorEq,Nat.reduceAdd,Nat.reduceLeDiff,Int.reduceLT,Int.reduceLE,↓u_setN]
 exact EndQ.to _ _ rfl (Store.sub_refl _) ⟨rfl,h'⟩
end Go.Am
namespace Go.Am
def val4 (l:List Int):Int:=n4 (l.getD 0 0) (l.getD 1 0) (l.getD 2 0) (l.getD 3 0)
def szN (n:Int):Nat:=((n+7) / 8).toNat
def decN:Nat→List Int→Option (List (Int×Int))
 | _,[]=>some []
 | 0,_::_=>none
 | f+1,n::r=>if 32<n then none else if r.length<szN n then none else (decN f (r.drop (szN n))).map (ofF (val4 (r.take (szN n))) n :: ·)
def dN (b:List Int):Option (List (Int×Int)):=decN b.length b
theorem z21:∀ (f g:Nat) (b:List Int),b.length≤f→b.length≤g→decN f b=decN g b
 | 0,0,_,_,_=>rfl
 | 0,g+1,[],_,_=>by simp [decN]
 | 0,g+1,_::_,h,_=>by simp at h
 | f+1,0,[],_,_=>by simp [decN]
 | f+1,0,_::_,_,h=>by simp at h
 | f+1,g+1,[],_,_=>by simp [decN]
 | f+1,g+1,n::r,h1,h2=>by
   simp only [decN]
   rw [z21 f g (r.drop (szN n)) (by simp at h1 ⊢;omega) (by simp at h2 ⊢;omega)]
theorem vi:dN []=some []:=rfl
theorem xt (n:Int) (r:List Int):dN (n::r)=if 32<n then none else if r.length<szN n then none else (dN (r.drop (szN n))).map (ofF (val4 (r.take (szN n))) n :: ·):=by
 simp only [dN,List.length_cons,decN]
 rw [z21 r.length (r.drop (szN n)).length _ (by simp) (Nat.le_refl _)]
theorem zei {M b i m:Nat} (hM:m*2 ^ i=M) (h:b<2 ^ i) (hm:M+b<4294967296):bitInt .or .u32 (M:Int) (b:Int)=((M+b:Nat):Int):=by
 have e:=Nat.shiftLeft_add_eq_or_of_lt h m
 rw [Nat.shiftLeft_eq,hM] at e
 show IntKind.u32.wrap ((BitVec.ofInt 32 (M:Int) ||| BitVec.ofInt 32 (b:Int)).toNat:Int)=_
 have e3:((M:Int) % ((2 ^ 32:Nat):Int)).toNat=M:=by omega
 have e4:((b:Int) % ((2 ^ 32:Nat):Int)).toNat=b:=by omega
 rw [BitVec.toNat_or,BitVec.toNat_ofInt,BitVec.toNat_ofInt,e3,e4,←e,z1x]
 omega
theorem zca (x:Int) (hx:0≤x∧x<256) (s:Nat) (hs:s≤24):shlInt .u32 x (s:Int)=x*2 ^ s:=by
 unfold shlInt
 have:min ((s:Int).toNat) IntKind.u32.bits=s:=by simp [IntKind.bits];omega
 rw [this]
 have h1:(2:Int) ^ s≤2 ^ 24:=by
  have:(2:Nat) ^ s≤2 ^ 24:=Nat.pow_le_pow_right (by decide) hs
  exact_mod_cast this
 have h0:(0:Int)≤2 ^ s:=Int.pow_nonneg (by decide)
 have h2:x*2 ^ s≤255*2 ^ s:=Int.mul_le_mul_of_nonneg_right (by omega) h0
 have h3:0≤x*2 ^ s:=Int.mul_nonneg hx.1 h0
 simp only [IntKind.wrap,IntKind.bits,IntKind.signed]
 simp
 omega
theorem z7o {l:List Int} (hl:U8s l) {k:Nat} (hk:k<l.length) (h4:k<4):bitInt .or .u32 (val4 (l.take k)) (shlInt .u32 l[k] (32 - 8*((k:Int)+1)))=val4 (l.take (k+1)):=by
 have st:∀ (M b x s m:Nat),s≤24→b=x*2 ^ s→x<256→m*2 ^ (s+8)=M→M+b<4294967296→bitInt .or .u32 (M:Int) (shlInt .u32 (x:Int) (s:Int))=((M+b:Nat):Int):=by
  intro M b x s m hs hb hx hM hlt
  have h2:b<2 ^ (s+8):=by
   rw [hb,Nat.pow_add,Nat.mul_comm (2 ^ s)]
   exact Nat.mul_lt_mul_of_pos_right hx (Nat.two_pow_pos s)
  rw [zca _ ⟨by omega,by omega⟩ s hs]
  have e:(x:Int)*2 ^ s=(b:Int):=by rw [hb];simp
  rw [e]
  exact zei hM h2 hlt
 have nat:∀ y ∈ l,∃ n:Nat,y=n∧n<256:=fun y hy=>by
  have:=hl y hy
  exact ⟨y.toNat,by omega,by omega⟩
 have hkc:k=0∨k=1∨k=2∨k=3:=by omega
 rcases hkc with rfl | rfl | rfl | rfl
 ·match l,hk with
  | a::l,_ =>
    obtain ⟨a,rfl,ha⟩:=nat a (by simp)
    have:=st 0 (a*16777216) a 24 0 (by omega) (by simp) ha (by simp) (by omega)
    refine Eq.trans ?_ (this.trans ?_)
    ·simp [val4,n4]
    ·simp [val4,n4];omega
 ·match l,hk with
  | a::b::l,_ =>
    obtain ⟨a,rfl,ha⟩:=nat a (by simp)
    obtain ⟨b,rfl,hb⟩:=nat b (by simp)
    have:=st (a*16777216) (b*65536) b 16 a (by omega) (by simp) hb (by simp) (by omega)
    refine Eq.trans (congr (congrArg (bitInt .or .u32) ?_) (congr (congrArg (shlInt .u32) ?_) ?_)) (this.trans ?_)
    ·simp [val4,n4];omega
    ·rfl
    ·rfl
    ·simp [val4,n4];omega
 ·match l,hk with
  | a::b::c::l,_ =>
    obtain ⟨a,rfl,ha⟩:=nat a (by simp)
    obtain ⟨b,rfl,hb⟩:=nat b (by simp)
    obtain ⟨c,rfl,hc⟩:=nat c (by simp)
    have:=st (a*16777216+b*65536) (c*256) c 8 (a*256+b) (by omega) (by simp) hc (by simp;omega) (by omega)
    refine Eq.trans (congr (congrArg (bitInt .or .u32) ?_) (congr (congrArg (shlInt .u32) ?_) ?_)) (this.trans ?_)
    ·simp [val4,n4];omega
    ·rfl
    ·rfl
    ·simp [val4,n4];omega
 ·match l,hk with
  | a::b::c::d::l,_ =>
    obtain ⟨a,rfl,ha⟩:=nat a (by simp)
    obtain ⟨b,rfl,hb⟩:=nat b (by simp)
    obtain ⟨c,rfl,hc⟩:=nat c (by simp)
    obtain ⟨d,rfl,hd⟩:=nat d (by simp)
    have:=st (a*16777216+b*65536+c*256) d d 0 (a*65536+b*256+c) (by omega) (by simp) hd (by simp;omega) (by omega)
    refine Eq.trans (congr (congrArg (bitInt .or .u32) ?_) (congr (congrArg (shlInt .u32) ?_) ?_)) (this.trans ?_)
    ·simp [val4,n4];omega
    ·rfl
    ·rfl
    ·simp [val4,n4];omega
end Go.Am
namespace Go.Am
open Go.Proofs Go.Sort
theorem zcd {σ:Store} {l m:List (Int×Int)} {v w:AV} (hv:Rd 2 σ (l.map pxC) v) (hw:Rd 2 σ (m.map pxC) w) (hl:l.length≤1000000) (hm:m.length≤1000000):ACalls Tryz.prog 25 [v,w] σ (fun r s=>s=σ∧r = .bool (decide (l=m))):=by
 refine zh Tst.F25 (by simp [Tst.F25,Fn.mkX]) ?_
 simp only [Tst.F25,Fn.mkX,Tst.b25]
 have lv:pv .len [v]=some (.int .i64 (l.length:Int)):=by rw [hv.2];simp
 have lw:pv .len [w]=some (.int .i64 (m.length:Int)):=by rw [hw.2];simp
 simp only [lv,lw,↓vcPre,↓z0,↓reduceIte,vcPost,vcStd,Nat.reduceEqDiff,reduceCtorEq,Nat.reduceAdd,Nat.reduceLeDiff,Int.reduceLT,Int.reduceLE,↓u_setN]
 refine ⟨fun c1 => ?_,fun c1 => ?_⟩
 ·exact EndQ.to σ _ rfl (Store.sub_refl _) ⟨rfl,by rw [decide_eq_false (fun e=>c1 (by rw [e]))]⟩
 ·have hlm:l.length=m.length:=by omega
  refine LoopQ.inv (S:=Nat) (fun k=>[(0,v),(1,w),(5,.int .i64 (k:Int))]) (fun _=>σ) (fun k=>k≤l.length∧l.take k=m.take k) (fun k=>l.length+1 - k) 0 rfl (Store.sub_refl _) ⟨by omega,by simp⟩ ?_
  rintro k ⟨hk,hE⟩
  simp only [lv,lw,↓vcPre,↓z0,↓reduceIte,vcPost,vcStd,Nat.reduceEqDiff,reduceCtorEq,Nat.reduceAdd,Nat.reduceLeDiff,Int.reduceLT,Int.reduceLE,↓u_setN]
  refine ⟨fun c2 => ?_,fun c2 => ?_⟩
  ·have ek:IntKind.i64.wrap ((k:Int)+1)=((k+1:Nat):Int):=by rw [zb (by unfold I64;omega)];omega
   obtain ⟨p,hp,hp2⟩:=hv.at (k:=k) (by simp;omega)
   obtain ⟨q,hq,hq2⟩:=hw.at (k:=k) (by simp;omega)
   have r1:=hp2 σ (Store.sub_refl _) 2
   have r2:=hq2 σ (Store.sub_refl _) 2
   simp only [List.getElem_map] at r1 r2
   have hkl:k<l.length:=by omega
   have hkm:k<m.length:=by omega
   simp only [hp,hq,r1,r2,pxC,↓vcPre,↓z0,↓reduceIte,vcPost,vcStd,Nat.reduceEqDiff,reduceCtorEq,Nat.reduceAdd,Nat.reduceLeDiff,Int.reduceLT,Int.reduceLE,↓u_setN]
   refine ⟨fun c3 => ?_,fun c3 c4 => ?_⟩
   ·refine EndQ.to σ _ rfl (Store.sub_refl _) ⟨rfl,?_⟩
    rw [decide_eq_false]
    intro e
    subst e
    exact c3 ⟨rfl,rfl⟩
   ·rw [ek]
    refine NextQ.to (k+1) rfl (Store.sub_refl _) (by omega) ⟨by omega,?_⟩
    have c3':l[k]=m[k]:=Prod.ext c3 c4
    rw [List.take_succ_eq_append_getElem hkl,List.take_succ_eq_append_getElem hkm,hE,c3']
  ·refine EndQ.to σ _ rfl (Store.sub_refl _) ⟨rfl,?_⟩
   have:k=l.length:=by omega
   subst this
   rw [List.take_length,hlm,List.take_length] at hE
   rw [decide_eq_true hE]
end Go.Am
namespace Go.Am.Tsd
open Go.Proofs Go.Am.B
def t13_34:BC := .ops [m 34 3,⟨some 35,none,.load (.ld 2 true),[.t 5]⟩,⟨some 36,none,.alloc (.mksl 2 1),[.t 35]⟩,⟨some 37,none,.loud (.app 2 32),[.t 34,.t 36]⟩,m 3 37] [1,2,3,4]
def t13_3:BC:=z [k 3 .nils] [1,2,3] (.seq (z [j 4 0] [1,2,3,4] (.block 0 (.loop [1,2,3,4] (.seq (z [m 14 4,f 15 1 1,l 16 1 15,u 17 .len 16,b 18 .lss 14 17] [1,2,3,4,18] (.cond (.t 18) .skip (.exit 0))) (.seq (.block 1 (z [f 21 1 1,l 22 1 21,m 23 4,x 24 2 22 23,⟨some 25,none,.load (.ld 2 true),[.t 24]⟩,⟨some 5,none,.alloc (.alloc [(.int .i64 0),.nils]),[]⟩,s 2 5 25] [1,2,3,4,5] (.seq (z [f 26 1 5,l 27 1 26,u 28 .len 27,c 29 .gtr 28 6] [1,2,3,4,5,29] (.cond (.t 29) (.ops [f 30 1 5,l 31 1 30,p 32 (.slice 1 false true) [.t 31,.c (.int .i64 6)],f 33 1 5,s 1 33 32] [1,2,3,4,5]) .skip)) t13_34))) (.ops [m 19 4,c 20 .add 19 1,m 4 20] [1,2,3,4])))))) (z [m 38 3,f 39 1 1,s 1 39 38] [1,2] (.seq (z [f 40 8 1,l 41 1 40,u 42 .len 41,c 43 .gtr 42 34] [1,2,43] (.cond (.t 43) (.ops [f 44 8 1,l 45 1 44,p 46 (.slice 1 false true) [.t 45,.c (.int .i64 34)],f 47 8 1,s 1 47 46] [1,2]) .skip)) (z [⟨some 48,none,.load (.ld 9 true),[.t 1]⟩,s 9 2 48] [2] .ret))))
def b13:BC:=z [⟨some 1,none,.alloc (.box),[.t 0]⟩,⟨some 2,none,.alloc (.alloc [(.int .i64 0),.nils,(.int .u32 0),(.bool false),(.int .u32 0),(.bool false),(.int .u32 0),(.bool false),.nils]),[]⟩] [1,2] (.seq (z [f 6 1 1,l 7 1 6,u 8 .len 7,c 9 .gtr 8 18] [1,2,9] (.cond (.t 9) (.ops [f 10 1 1,l 11 1 10,p 12 (.slice 2 false true) [.t 11,.c (.int .i64 18)],f 13 1 1,s 1 13 12] [1,2]) .skip)) t13_3)
def F13:Fn Tryz.prog 13:=Fn.mkX false b13 [.c 2 9 true] 49 Tryz.f13 _ Tryz.func13 (by decide) rfl Tryz.ntmps13 (by kernel_rfl) (by kernel_rfl)
end Go.Am.Tsd
