/- A part of the proof: a logic for calls over plain values, and the functions that the law reaches, each walked once. -/
import Derived.Test.YtcjiacchgddnpaaGreatPQ10
import Derived.RangeFuncBox
import Derived.RangeFuncLeaves
import Derived.Shelf.Abstract
import Derived.WalkKit
import Derived.OwnWalkIn
import Derived.TacticsInMore
import Derived.LoopNIn
import Derived.LoopIn
import Derived.Maps.AppendAt
import Derived.Test.YtcjiacchgddnpaaGreatProg
set_option linter.unusedVariables false
set_option linter.unusedSimpArgs false
set_option linter.unusedSectionVars false
namespace Go.Am.AS
open Go.RowKit Go.Shelf Go.Proofs
set_option linter.unusedVariables false
set_option linter.unusedSimpArgs false
attribute [local go_sem] Oper.semAt_some
def upto {α:Type} (f:Nat→α) (k:Nat):List α:=(List.range k).map f
theorem z1m {α:Type} (f:Nat→α) (k:Nat):upto f (k+1)=upto f k++[f k]:=by simp [upto,List.range_succ]
theorem z37 {α:Type} (f:Nat→α) (k:Nat):(upto f k).length=k:=by simp [upto]
theorem z7j (zs:List Int):upto (fun j=>zs[j]?.getD 0) zs.length=zs:=by
 apply List.ext_getElem
 ·simp [upto]
 ·intro i h1 h2
  simp [upto,h2]
set_option maxRecDepth 100000 in
set_option maxHeartbeats 2000000 in
theorem z4x (F:Fence) (n:Nat) (h7:F.fn 147) (hro:F.round=none) (hn:1≤n) (l Bs oB n₀ b off len cap:Nat) (pa:Option Addr) (zs:List Int) (hreach:len≤9223372036854775806) (hpa:0<len→pa=some ⟨b,off,none⟩∧b<n₀) (J Jx:List Int→World→Prop)
 (hY:∀ pre x W,J pre W→pre.length<len→YieldAt F (n - 1) Tryz.prog l #[.int .u32 x] W fun e W' =>
   (e = .returned (.bool true)∧J (pre++[x]) W'∧Below n₀ W W')∨(e = .returned (.bool false)∧Jx (pre++[x]) W'))
 (W:World) (hBs:W.cell? ⟨Bs,oB,none⟩=some (.slice pa len cap)) (hc:∀ j,j<len→W.cell? ⟨b,off+j,none⟩=some (.int .u32 (zs[j]?.getD 0))) (h0:J [] W) :
 CallsIn F n Tryz.prog 147 #[.func (.yield l) #[] #[],.pointer (some ⟨Bs,oB,none⟩)] W fun e W'=>(∃ v,e = .returned v) ∧
  ((∃ ys,ys=upto (fun j=>zs[j]?.getD 0) len∧J ys W')∨(∃ pre,(∃ k,k≤len∧pre=upto (fun j=>zs[j]?.getD 0) k)∧Jx pre W')):=by
 refine callsIn_of_wp Tryz.func147 rfl h7 ?_ hro
 simp only [Tryz.ntmps147,List.size_toArray,List.length_cons,List.length_nil,Nat.reduceAdd,Nat.reduceSub,Array.replicate_succ,Array.replicate_zero,List.push_toArray,List.append_toArray,List.nil_append,List.cons_append]
 gi_wp2
 gi_loopw [7] (fun i wr=>∃ k:Nat,k≤len∧i = .int .i64 k∧J (upto (fun j=>zs[j]?.getD 0) k) wr∧Below n₀ W wr)
  (fun i _=>len - (intOf i).toNat)
 case atStart=>exact ⟨0,Nat.zero_le _,rfl,h0,Below.refl _ _⟩
 case round =>
  obtain ⟨k,hk,rfl,hJs,hnx⟩:=hrel
  have hcx:b<n₀→k<len→wr.cell? ⟨b,off+k,none⟩=some (.int .u32 (zs[k]?.getD 0)):=fun hb h=>(hnx.cell (p:=⟨b,off+k,none⟩) hb).trans (hc k h)
  by_cases hlt:k<len
  ·obtain ⟨fn,tmps,assign,body,hy,hR⟩:=hY _ (zs[k]?.getD 0) wr hJs (by rw [z37];exact hlt)
   obtain ⟨hpa1,hb⟩:=hpa (by omega)
   subst hpa1
   have hcx':=hcx hb hlt
   gi_wp2
   refine hR.mono ?_
   rintro e W3 (⟨rfl,hJ3,hk3⟩ | ⟨rfl,hJx3⟩)
   ·gi_wp2
    go_roundw
    case rel=>exact ⟨k+1,by omega,by simp,by rw [z1m];exact hJ3,hnx.trans hk3⟩
    case measure=>simp [intOf];omega
   ·gi_wp2
    refine bodyPost_ret (results_none rfl _ _ _) rfl ?_
    exact ⟨⟨_,rfl⟩,.inr ⟨_,⟨k+1,by omega,(z1m _ _).symm⟩,hJx3⟩⟩
  ·obtain rfl:k=len:=by omega
   gi_wp2
   go_end0
   exact ⟨⟨_,rfl⟩,.inl ⟨_,rfl,hJs⟩⟩
theorem z2t (F:Fence) (n:Nat) (h7:F.fn 147) (hro:F.round=none) (hn:1≤n) (Bs oB n₀ b off cap:Nat) (pa:Option Addr) (zs:List Int) (w:World) (hreach:zs.length≤9223372036854775806) (hBs:Bs<w.heap.size) (hn₀:n₀≤w.heap.size) (hpa:0<zs.length→pa=some ⟨b,off,none⟩∧b<n₀)
 (hc0:w.cell? ⟨Bs,oB,none⟩=some (.slice pa zs.length cap)) (hc:∀ j,j<zs.length→w.cell? ⟨b,off+j,none⟩=some (.int .u32 (zs[j]?.getD 0))) :
 SeqStopsK F n Tryz.prog 147 #[.pointer (some ⟨Bs,oB,none⟩)] (fun x:Int => #[Value.int .u32 x]) (Below n₀) (fun ys=>ys=zs) (fun _=>True) zs.length w:=fun l J Jx W hW _ _ hY h0=>by
 refine (z4x F n h7 hro hn l Bs oB n₀ b off zs.length cap pa zs hreach hpa J Jx hY W ((hW.cell (p:=⟨Bs,oB,none⟩) hBs).trans hc0) (fun j hj=>(hW.cell (p:=⟨b,off+j,none⟩) (Nat.lt_of_lt_of_le (hpa (by omega)).2 hn₀)).trans (hc j hj)) h0).mono ?_
 rintro e W' ⟨hv,⟨ys,h1,h2⟩ | ⟨pre,_,h2⟩⟩
 ·exact ⟨hv,.inl ⟨ys,by rw [h1,z7j],h2⟩⟩
 ·exact ⟨hv,.inr ⟨pre,trivial,h2⟩⟩
theorem zcr:(Tryz.prog.info? 23).map (fun i=>(i.zero,i.size,i.bytes))=some (some (.int .u32 0),1,4):=by kernel_rfl
set_option maxRecDepth 100000 in
set_option maxHeartbeats 2000000 in
theorem z51 (F:Fence) (n:Nat) (h3:F.fn 161) (h5:F.fn 147) (hro:F.round=none) (hn:3≤n) (Bs oB b off cap:Nat) (pa:Option Addr) (zs:List Int) (hlen:zs.length*4≤140737488355328) (w:World) (hBs:Bs<w.heap.size) (hpa:0<zs.length→pa=some ⟨b,off,none⟩∧b<w.heap.size)
 (hc0:w.cell? ⟨Bs,oB,none⟩=some (.slice pa zs.length cap)) (hcs:∀ j,j<zs.length→w.cell? ⟨b,off+j,none⟩=some (.int .u32 (zs[j]?.getD 0))) :
 CallsIn F n Tryz.prog 161 #[.slice none 0 0,.func (.func 147) #[] #[.pointer (some ⟨Bs,oB,none⟩)]] w fun e W'=>∃ v,e = .returned v∧W'.ownsRow w.heap.size 23 1 v zs.length (zs.map (Value.int .u32))∧(v = .slice none 0 0↔zs=[])∧Below w.heap.size w W':=by
 have h1:1≤n:=by omega
 have hml:zs.length≤maxLen:=by unfold maxLen;omega
 obtain ⟨i0,hi,hz0,hz1,hz2⟩:=info_parts zcr
 refine callsIn_of_wp_marks Tryz.func161 rfl h3 ?_ hro
 simp only [Tryz.ntmps161,List.size_toArray,List.length_cons,List.length_nil,Nat.reduceAdd,Nat.reduceSub,Array.replicate_succ,Array.replicate_zero,List.push_toArray,List.append_toArray,List.nil_append,List.cons_append]
 gi_wp2
 have bO:=Boxed.new w 24 (.slice none 0 0)
 have hB0:Below w.heap.size w (w.alloc (.cells #[.slice none 0 0] 24)):=(Below.refl _ w).alloc (Nat.le_refl _) _
 refine wpIn_rangeFunc_ownG hro h1 (gf:=147) (lb := #[.pointer (some ⟨Bs,oB,none⟩)]) rfl h5 (enters_of Tryz.func147 (by kernel_rfl) rfl)
  (z2t F (n - 1) h5 hro (by omega) Bs oB w.heap.size b off cap pa zs _ (by omega) (by simp;omega) (by simp) hpa ((hB0.cell (p:=⟨Bs,oB,none⟩) hBs).trans hc0) (fun j hj=>(hB0.cell (p:=⟨b,off+j,none⟩) (hpa (by omega)).2).trans (hcs j hj))) belowK_t (belowK_b (by simp)) (Below.refl _ _) (fun _=>rfl)
  (fun pre W=>(∃ v,Boxed W w.heap.size 24 v∧W.ownsRow w.heap.size 23 1 v pre.length (pre.map (Value.int .u32))∧(v = .slice none 0 0↔pre=[]))∧Below w.heap.size w W)
  (fun _ _ _=>False)
  (OwnFrom.and (Own.from (holdsRow_own w.heap.size w.heap.size 24 23 1 (fun pre:List Int=>pre.length) (fun pre=>pre.map (Value.int .u32)) (fun pre v=>v = .slice none 0 0↔pre=[])) _) (ownFrom_below (Nat.le_refl _) (by simp)))
  (fun _ _ _ _ _ hs _ _=>hs)
  ⟨⟨_,bO,World.ownsRow_nil _ _ _ _,by simp⟩,hB0⟩
  (fun x=>{ tmps := #[.slice none 0 0,.func (.func 147) #[] #[.pointer (some ⟨Bs,oB,none⟩)],.pointer (some ⟨w.heap.size,0,none⟩),undef,.slice none 0 0,.int .u32 x,.func (.func 147) #[] #[.pointer (some ⟨Bs,oB,none⟩)],.int .u32 x,undef,undef,undef,undef,undef],defers:=[] }) ?assign ?body ?done ?stop
 case assign =>
  intro l x W K hK
  gi_wp2
  exact hK
 case body =>
  rintro l pre x W ⟨⟨v,hv,hrow,hnil⟩,hB⟩ hlt
  have hc:=hv.cell
  gi_wp2_with (gi_at_builtin;refine wpListIn_append_own _ rfl _ _ 24 rfl w.heap.size 23 i0 (.int .u32 0) 1 4 Tryz.underlying24 hi hz0 hz1 hz2 rfl (by decide) _ _ _ rfl (hrow.alloc _) ⟨W.heap.size,0,none⟩ 1 1 [.int .u32 x] rfl rfl (cell_one_new _ _ _) (by simp [Value.oneCell']) (by omega) (by omega) (by have:=hB.size;simp;omega) ?_;intro v' w1 hown' hgrow _;obtain ⟨g',cap',rfl⟩:=ownsRow_succ hown';obtain ⟨hv1,hv2,hr2,hk2,hb2⟩:=hv.appended (by decide) hrow hB.size (Nat.le_refl _) hown' hgrow;have hc1:=hv1.cell;have hf1:=hv1.frozen)
  exact ⟨hk2.from _,hb2,⟨_,hv2,by simpa using hr2,by simp⟩,hB.trans hb2⟩
 case done =>
  rintro D ys W hD rfl ⟨⟨v,hv,hrow,hnil⟩,hB⟩ hK
  have hc:=hv.cell
  gi_wp2
  refine ⟨by simp,.inl ⟨_,_,rfl,run_takeDeferred hK,?_⟩⟩
  exact ⟨_,results_tmp rfl _ _ _,v,rfl,ownsRow_putObj hrow _ hK rfl,hnil,hB.trans (belowK_b (w:=w) (Nat.le_refl _) W D _ _ (by simp at hD;omega) hK rfl rfl)⟩
 case stop =>
  rintro D c pre W _ _ h _
  exact h.elim
theorem append_calls:Go.Am.SeqHolds Tryz.prog 161 147 .u32 23 4:=fun Bs oB b off cap pa zs w hlen hBs hpa hc0 hcs =>
 (callsIn_wide (n:=3)).1 (z51 _ 3 trivial trivial rfl (Nat.le_refl _) Bs oB b off cap pa zs hlen w hBs hpa hc0 hcs)
theorem ent:Go.Am.Ent Tryz.prog 161:=⟨_,Tryz.func161,by decide,rfl⟩
end Go.Am.AS
namespace Go.Am
open Go.Proofs Go.Sort
def cU (x:Int):List AV:=[.int .u32 x]
abbrev LessU:Prop:=∀ x y:Int,Pur Tryz.prog 171 [.int .u32 x,.int .u32 y] (.bool (decide (cfU x y<0)))
theorem z6h (x:Int):Pur Tryz.prog 151 [.int .u32 x] (.bool false):=by
 refine zp Tst.F151 (by simp [Tst.F151,Fn.mkX]) fun σ => ?_
 simp only [Tst.F151,Fn.mkX,Tst.b151]
 simp only [↓vcPre,↓z0,↓reduceIte,vcPost,vcStd,Nat.reduceEqDiff,reduceCtorEq,Nat.reduceAdd,Nat.reduceLeDiff,Int.reduceLT,Int.reduceLE,↓u_setN]
theorem zct:LessU:=by
 intro x y
 refine zp Tst.F171 (by simp [Tst.F171,Fn.mkX]) fun σ => ?_
 simp only [Tst.F171,Fn.mkX,Tst.b171]
 simp only [↓vcPre,↓z0,↓reduceIte,vcPost,vcStd,Nat.reduceEqDiff,reduceCtorEq,Nat.reduceAdd,Nat.reduceLeDiff,Int.reduceLT,Int.reduceLE,↓u_setN]
 refine (z6h x).Q ?_
 simp only [↓vcPre,↓z0,↓reduceIte,vcPost,vcStd,Nat.reduceEqDiff,reduceCtorEq,Nat.reduceAdd,Nat.reduceLeDiff,Int.reduceLT,Int.reduceLE,↓u_setN]
 have e:decide (x<y)=decide (cfU x y<0):=by
  rw [Bool.eq_iff_iff,decide_eq_true_eq,decide_eq_true_eq];unfold cfU;omega
 rw [e]
theorem hU:SH Tryz.prog NU .u32:=zce zct z6f zaf zas
theorem zev {σ:Store} {b:Nat} {S:AV} {zs:List Int} (hbox:σ b=some (.box [S])) (hS:slc σ 1 S=some (zs.map cU)) (hle:zs.length≤1000000000) :
 ACalls Tryz.prog 112 [.fn 147 [.ptr b 0]] σ (fun r s=>(zs=[]∧r = .nils∧s=σ)∨(zs≠[]∧∃ g,∃ L:List Int,σ g=none∧L.Perm zs∧L.Pairwise (· ≤ ·)∧r = .os g 1 0 L.length∧s=σ.set g (.arr 1 (L.map cU)))):=by
 refine zg Tst.F112 (by simp [Tst.F112,Fn.mkX]) ?_
 simp only [Tst.F112,Fn.mkX,Tst.b112]
 simp only [↓vcPre,↓z0,↓reduceIte,vcPost,vcStd,Nat.reduceEqDiff,reduceCtorEq,Nat.reduceAdd,Nat.reduceLeDiff,Int.reduceLT,Int.reduceLE,↓u_setN]
 have hcol:ACalls Tryz.prog 145 [.fn 147 [.ptr b 0]] σ (fun a s=>(zs=[]∧a = .nils∧s=σ)∨(zs≠[]∧∃ g,σ g=none∧a = .os g 1 0 zs.length∧s=σ.set g (.arr 1 (zs.map cU)))):=by
  refine zg Tst.F145 (by simp [Tst.F145,Fn.mkX]) ?_
  simp only [Tst.F145,Fn.mkX,Tst.b145]
  simp only [↓vcPre,↓z0,↓reduceIte,vcPost,vcStd,Nat.reduceEqDiff,reduceCtorEq,Nat.reduceAdd,Nat.reduceLeDiff,Int.reduceLT,Int.reduceLE,↓u_setN]
  refine (z76 AS.ent AS.append_calls hbox hS (by omega)).Q ?_
  rintro r s (⟨hz,rfl,rfl⟩ | ⟨hz,g,hg,rfl,rfl⟩)
  ·simp only [↓vcPre,↓z0,↓reduceIte,vcPost,vcStd,Nat.reduceEqDiff,reduceCtorEq,Nat.reduceAdd,Nat.reduceLeDiff,Int.reduceLT,Int.reduceLE,↓u_setN]
   exact EndQ.to _ _ rfl (Store.sub_refl _) (.inl ⟨hz,rfl,rfl⟩)
  ·simp only [↓vcPre,↓z0,↓reduceIte,vcPost,vcStd,Nat.reduceEqDiff,reduceCtorEq,Nat.reduceAdd,Nat.reduceLeDiff,Int.reduceLT,Int.reduceLE,↓u_setN]
   exact EndQ.to _ _ rfl (Store.sub_refl _) (.inr ⟨hz,g,hg,rfl,rfl⟩)
 refine hcol.Q ?_
 rintro r s (⟨hz,rfl,rfl⟩ | ⟨hz,g,hg,rfl,rfl⟩)
 ·simp only [↓vcPre,↓z0,↓reduceIte,vcPost,vcStd,Nat.reduceEqDiff,reduceCtorEq,Nat.reduceAdd,Nat.reduceLeDiff,Int.reduceLT,Int.reduceLE,↓u_setN]
  refine (z3h hU _).Q ?_
  rintro r s ⟨rfl,rfl⟩
  simp only [↓vcPre,↓z0,↓reduceIte,vcPost,vcStd,Nat.reduceEqDiff,reduceCtorEq,Nat.reduceAdd,Nat.reduceLeDiff,Int.reduceLT,Int.reduceLE,↓u_setN]
  exact EndQ.to _ _ rfl (Store.sub_refl _) (.inl ⟨hz,rfl,rfl⟩)
 ·simp only [↓vcPre,↓z0,↓reduceIte,vcPost,vcStd,Nat.reduceEqDiff,reduceCtorEq,Nat.reduceAdd,Nat.reduceLeDiff,Int.reduceLT,Int.reduceLE,↓u_setN]
  refine (z28 hU (L:=zs) (Store.set_same _ _ _) (by omega)).Q ?_
  rintro r s ⟨rfl,L,hp,hl,rfl⟩
  simp only [↓vcPre,↓z0,↓reduceIte,vcPost,vcStd,Nat.reduceEqDiff,reduceCtorEq,Nat.reduceAdd,Nat.reduceLeDiff,Int.reduceLT,Int.reduceLE,↓u_setN]
  exact EndQ.to _ _ rfl (Store.sub_refl _) (.inr ⟨hz,g,L,hg,hp,hl,by rw [hp.length_eq],by rw [Store.set_set];rfl⟩)
theorem zew (S:AV) (hS:S.isTup=false∧S.cells=[S]) (σ:Store):ACalls Tryz.prog 113 [S] σ (fun r s=>∃ b,σ b=none∧r = .fn 147 [.ptr b 0]∧s=σ.set b (.box [S])):=by
 refine zg Tst.F113 (by simp [Tst.F113,Fn.mkX]) ?_
 simp only [Tst.F113,Fn.mkX,Tst.b113]
 simp only [hS.1,hS.2,↓vcPre,↓z0,↓reduceIte,vcPost,vcStd,Nat.reduceEqDiff,reduceCtorEq,Nat.reduceAdd,Nat.reduceLeDiff,Int.reduceLT,Int.reduceLE,↓u_setN]
 refine AllocQ.i0 fun b hb => ?_
 simp only [↓vcPre,↓z0,↓reduceIte,vcPost,vcStd,Nat.reduceEqDiff,reduceCtorEq,Nat.reduceAdd,Nat.reduceLeDiff,Int.reduceLT,Int.reduceLE,↓u_setN]
 exact EndQ.to _ _ rfl (Store.sub_refl _) ⟨b,hb,rfl,rfl⟩
end Go.Am
namespace Go.Am
open Go.Proofs Go.Sort
theorem zd4 {P:Program} {n:Nat} {z:List AV} {a:AV} {σ:Store} {K:AV→Store→Prop}:lwp P (.clr n z) [a] σ K↔clrwp n z a σ (K (.tup [])):=by simp only [lwp]
def ddA:List Int→List Int
 | []=>[]
 | [a]=>[a]
 | a::b::r=>if a=b then ddA (b::r) else a::ddA (b::r)
theorem z20 (x:Int):∀ l:List Int,ddA (l++[x])=if l.getLast? = some x then ddA l else ddA l++[x]
 | []=>by simp [ddA]
 | [a]=>by
   by_cases h:a=x
   ·simp [ddA,h]
   ·simp [ddA,h]
 | a::b::r=>by
   have ih:=z20 x (b::r)
   simp only [List.cons_append] at ih ⊢
   simp only [ddA,List.getLast?_cons_cons]
   rw [ih]
   by_cases hab:a=b
   ·simp only [hab,if_true]
   ·simp only [hab,if_false]
    split <;> simp
theorem qv {L:List Int} {k:Nat} (h1:1≤k) (h:k<L.length):ddA (L.take (k+1))=if L[k - 1]'(by omega)=L[k] then ddA (L.take k) else ddA (L.take k)++[L[k]]:=by
 have e:L.take (k+1)=L.take k++[L[k]]:=by rw [List.take_add_one,List.getElem?_eq_getElem h];rfl
 rw [e,z20]
 have:(L.take k).getLast? = some (L[k - 1]'(by omega)):=by
  rw [List.getLast?_eq_getElem?,List.length_take,Nat.min_eq_left (by omega),List.getElem?_take_of_lt (by omega),List.getElem?_eq_getElem (by omega)]
 rw [this]
 simp
theorem zeu {σ:Store} {g:Nat} {L:List Int} (hσ:σ g=some (.arr 1 (L.map cU))) (hl:L.length<1000000000000) :
 ACalls Tryz.prog 111 [.os g 1 0 L.length] σ (fun r s=>∃ M:List Int,M.length=L.length∧M.take (ddA L).length=ddA L∧(ddA L).length≤L.length∧r = .os g 1 0 (ddA L).length∧s=σ.set g (.arr 1 (M.map cU))):=by
 refine zg Tst.F111 (by simp [Tst.F111,Fn.mkX]) ?_
 simp only [Tst.F111,Fn.mkX,Tst.b111]
 simp only [↓vcPre,↓z0,↓reduceIte,vcPost,vcStd,Nat.reduceEqDiff,reduceCtorEq,Nat.reduceAdd,Nat.reduceLeDiff,Int.reduceLT,Int.reduceLE,↓u_setN]
 refine ⟨fun c0 => ?_,fun c0 => ?_⟩
 ·have hd:ddA L=L:=by
   match L,c0 with
   | [],_=>rfl
   | [a],_=>rfl
   | a::b::r,h=>simp at h;omega
  refine EndQ.to σ _ rfl (Store.sub_refl _) ⟨L,rfl,by rw [hd];simp,by rw [hd];exact Nat.le_refl _,by rw [hd],(Store.set_self hσ).symm⟩
 ·have eS:σ=σ.set g (.arr 1 (L.map cU)):=(Store.set_self hσ).symm
  refine LoopQ.inv (S:=Nat) (fun k=>[(0,.os g 1 0 L.length),(3,.int .i64 (k:Int))]) (fun _=>σ) (fun k=>1≤k∧k≤L.length∧ddA (L.take k)=L.take k) (fun k=>L.length+1 - k) 1 rfl (Store.sub_refl _) ⟨by omega,by omega,by
   cases L with
   | nil=>rfl
   | cons a r=>simp [ddA]⟩ ?_
  rintro k ⟨h1,h2,h3⟩
  simp only [hσ,↓vcPre,↓z0,↓reduceIte,vcPost,vcStd,Nat.reduceEqDiff,reduceCtorEq,Nat.reduceAdd,Nat.reduceLeDiff,Int.reduceLT,Int.reduceLE,↓u_setN]
  have ek:IntKind.i64.wrap ((k:Int)+1)=((k+1:Nat):Int):=by rw [zd (by unfold I64;omega)];omega
  have em:IntKind.i64.wrap ((k:Int) - 1)=((k - 1:Nat):Int):=by rw [zd (by unfold I64;omega)];omega
  refine ⟨fun c1 => ?_,fun c1 => ?_⟩
  ·simp only [em,Int.toNat_natCast]
   refine ⟨by omega,by omega,by omega,by simp [cU],?_⟩
   simp only [cU,ek,em,Nat.zero_add,Option.getD_none,↓vcPre,↓z0,↓reduceIte,vcPost,vcStd,Nat.reduceEqDiff,reduceCtorEq,Nat.reduceAdd,Nat.reduceLeDiff,Int.reduceLT,Int.reduceLE,↓u_setN]
   refine ⟨by omega,fun c2 => ?_,fun c2 => ?_⟩
   ·refine ⟨by omega,?_⟩
    have hd0:ddA (L.take (k+1))=L.take k:=by
     rw [qv h1 c1,if_pos c2.symm,h3]
    refine LoopQ.inv (S:=Nat×Nat×List Int) (fun q=>[(0,.os g 1 0 L.length),(3,.int .i64 (q.1:Int)),(4,.os g 1 k (L.length - k)),(5,.int .i64 (q.2.1:Int))]) (fun q=>σ.set g (.arr 1 (q.2.2.map cU)))
     (fun q=>1≤q.2.1∧k+q.2.1≤L.length∧1≤q.1∧q.1+1≤k+q.2.1∧q.2.2.length=L.length∧q.2.2.take q.1=ddA (L.take (k+q.2.1))∧q.1=(ddA (L.take (k+q.2.1))).length∧q.2.2.drop (k+q.2.1 - 1)=L.drop (k+q.2.1 - 1)) (fun q=>L.length+1 - q.2.1) (k,1,L) rfl (by rw [←eS];exact Store.sub_refl _)
     ⟨by simp only;omega,by simp only;omega,by simp only;omega,by simp only;omega,rfl,by simp only [hd0],by simp only [hd0,List.length_take];omega,rfl⟩ ?_
    rintro ⟨p,m,M⟩ ⟨g1,g2,g3,g4,g5,g6,g7,g8⟩
    simp only at g1 g2 g3 g4 g5 g6 g7 g8
    simp only [Nat.zero_add,↓vcPre,↓z0,↓reduceIte,vcPost,vcStd,Nat.reduceEqDiff,reduceCtorEq,Nat.reduceAdd,Nat.reduceLeDiff,Int.reduceLT,Int.reduceLE,↓u_setN]
    have en:IntKind.i64.wrap ((m:Int)+1)=((m+1:Nat):Int):=by rw [zd (by unfold I64;omega)];omega
    have ep:IntKind.i64.wrap ((p:Int)+1)=((p+1:Nat):Int):=by rw [zd (by unfold I64;omega)];omega
    have eq:IntKind.i64.wrap ((m:Int) - 1)=((m - 1:Nat):Int):=by rw [zd (by unfold I64;omega)];omega
    refine ⟨fun d1 => ?_,fun d1 => ?_⟩
    ·have hM1:M[k+m]'(by omega)=L[k+m]'(by omega):=by
      have:=congrArg (fun l:List Int=>l[1]?) g8
      simp only [List.getElem?_drop] at this
      rw [show k+m - 1+1=k+m by omega,List.getElem?_eq_getElem (by omega),List.getElem?_eq_getElem (by omega)] at this
      exact Option.some.inj this
     have hM0:M[k+(m - 1)]'(by omega)=L[k+m - 1]'(by omega):=by
      have:=congrArg (fun l:List Int=>l[0]?) g8
      simp only [List.getElem?_drop,Nat.add_zero] at this
      rw [List.getElem?_eq_getElem (by omega),List.getElem?_eq_getElem (by omega)] at this
      have h9:=Option.some.inj this
      have e9:k+(m - 1)=k+m - 1:=by omega
      simp only [e9];exact h9
     have hstep:=qv (L:=L) (k:=k+m) (by omega) (by omega)
     simp only [eq,Int.toNat_natCast]
     refine ⟨by omega,⟨by omega,by omega⟩,by omega,by simp [cU],?_⟩
     simp only [hM1,hM0]
     simp only [cU,en,ep,Nat.zero_add,hM1,hM0,↓vcPre,↓z0,↓reduceIte,vcPost,vcStd,Nat.reduceEqDiff,reduceCtorEq,Nat.reduceAdd,Nat.reduceLeDiff,Int.reduceLT,Int.reduceLE,↓u_setN]
     refine ⟨by omega,fun e1=>⟨by omega,by omega,by omega,by omega,?_⟩,fun e1 => ?_⟩
     ·have eset:(List.map cU M).set p [AV.int IntKind.u32 (L[k+m]'(by omega))]=(M.set p (L[k+m]'(by omega))).map cU:=by rw [List.map_set];rfl
      rw [eset,Store.set_set]
      rw [if_neg (fun e=>e1 e.symm)] at hstep
      have el:(ddA (L.take (k+m+1))).length=p+1:=by rw [hstep,List.length_append,←g7];rfl
      refine NextQ.to (p+1,m+1,M.set p (L[k+m]'(by omega))) rfl (Store.sub_refl _) (by simp only;omega)
       ⟨by simp only;omega,by simp only;omega,by simp only;omega,by simp only;omega,by simp [g5],?_,?_,?_⟩
      ·simp only
       rw [show k+(m+1)=k+m+1 by omega,hstep,List.take_add_one,List.take_set,List.getElem?_set_self (by omega),←g6,List.set_eq_of_length_le (by simp;omega)]
       rfl
      ·simp only
       rw [show k+(m+1)=k+m+1 by omega,el]
      ·simp only
       rw [List.drop_set,if_pos (by omega),show k+(m+1) - 1=(k+m - 1)+1 by omega,←List.drop_drop,←List.drop_drop (l:=L),g8]
     ·rw [if_pos e1.symm] at hstep
      refine NextQ.to (p,m+1,M) rfl (Store.sub_refl _) (by simp only;omega)
       ⟨by simp only;omega,by simp only;omega,by simp only;omega,by simp only;omega,g5,?_,?_,?_⟩
      ·simp only
       rw [show k+(m+1)=k+m+1 by omega,hstep,g6]
      ·simp only
       rw [show k+(m+1)=k+m+1 by omega,hstep,g7]
      ·simp only
       rw [show k+(m+1) - 1=(k+m - 1)+1 by omega,←List.drop_drop,←List.drop_drop (l:=L),←g8]
    ·have hkm:L.take (k+m)=L:=List.take_of_length_le (by omega)
     rw [hkm] at g6 g7
     simp only [Option.getD_none,Option.getD_some,Int.toNat_natCast]
     refine ⟨by omega,?_⟩
     rw [zd4]
     simp only [clrwp,Store.set_same]
     refine ⟨trivial,trivial,by simp;omega,by omega,?_⟩
     have e1:(List.map cU M).take p++(List.replicate (L.length - p) [AV.int IntKind.u32 0]++(List.map cU M).drop (p+(L.length - p)))=(M.take p++List.replicate (L.length - p) 0).map cU:=by
      rw [List.drop_eq_nil_of_le (by simp;omega)]
      simp [cU,List.map_take]
     rw [e1,Store.set_set]
     refine EndQ.to (σ.set g (.arr 1 ((M.take p++List.replicate (L.length - p) 0).map cU))) _ rfl (Store.sub_refl _) ⟨_,by simp;omega,by rw [←g7,List.take_left' (by simp;omega)];exact g6,by omega,by rw [←g7];simp,rfl⟩
   ·refine NextQ.to (k+1) rfl (Store.sub_refl _) (by omega) ⟨by omega,by omega,?_⟩
    rw [qv h1 c1,if_neg (fun e=>c2 e.symm),h3,List.take_add_one,List.getElem?_eq_getElem c1]
    rfl
  ·have hk:L.take k=L:=List.take_of_length_le (by omega)
   rw [hk] at h3
   refine EndQ.to σ _ rfl (Store.sub_refl _) ⟨L,rfl,by rw [h3];simp,by rw [h3];exact Nat.le_refl _,by rw [h3],(Store.set_self hσ).symm⟩
end Go.Am
namespace Go.Am
open Go.Proofs Go.Sort
structure Seg where
 kind:Int
 ls:List Int
def Seg.c (s:Seg):List AV:=[.int .i64 s.kind,.sl 1 (s.ls.map cU)]
structure At where
 org:Int
 path:List Seg
 nxt:Int
 hm:Bool
 med:Int
 hp:Bool
 prf:Int
 atm:Bool
 cms:List Int
def At.c (a:At):List AV:=[.int .i64 a.org,.sl 2 (a.path.map Seg.c),.int .u32 a.nxt,.bool a.hm,.int .u32 a.med,.bool a.hp,.int .u32 a.prf,.bool a.atm,.sl 1 (a.cms.map cU)]
def Seg.ok (s:Seg):Prop:=s.ls.length≤1000000
def At.ok (a:At):Prop:=a.path.length≤1000000∧(∀ s ∈ a.path,s.ok)∧a.cms.length≤1000000
theorem zef (zs:List Int) (h:zs.length≤1000000000):Pur Tryz.prog 144 [.sl 1 (zs.map cU)] (.sl 1 (zs.map cU)):=by
 intro σ
 refine zg Tst.F144 (by simp [Tst.F144,Fn.mkX]) ?_
 simp only [Tst.F144,Fn.mkX,Tst.b144]
 simp only [↓vcPre,↓z0,↓reduceIte,vcPost,vcStd,Nat.reduceEqDiff,reduceCtorEq,Nat.reduceAdd,Nat.reduceLeDiff,Int.reduceLT,Int.reduceLE,↓u_setN]
 show nilqwp false (.sl 1 (zs.map cU)) _
 refine z60 fun b hb => ?_
 cases b with
 | true =>
   have hl:zs=[]:=by
    cases zs with
    | nil=>rfl
    | cons x r=>have:=hb (by simp);cases this
   subst hl
   simp only [↓vcPre,↓z0,↓reduceIte,vcPost,vcStd,Nat.reduceEqDiff,reduceCtorEq,Nat.reduceAdd,Nat.reduceLeDiff,Int.reduceLT,Int.reduceLE,↓u_setN]
   exact EndQ.nil1 1 σ rfl (Store.sub_refl _) ⟨rfl,rfl⟩
 | false =>
   simp only [↓vcPre,↓z0,↓reduceIte,vcPost,vcStd,Nat.reduceEqDiff,reduceCtorEq,Nat.reduceAdd,Nat.reduceLeDiff,Int.reduceLT,Int.reduceLE,↓u_setN]
   refine AllocQ.i0 fun i hi => ?_
   simp only [↓vcPre,↓z0,↓reduceIte,vcPost,vcStd,Nat.reduceEqDiff,reduceCtorEq,Nat.reduceAdd,Nat.reduceLeDiff,Int.reduceLT,Int.reduceLE,↓u_setN]
   refine x9 (zm (Store.set_same _ _ _) rfl) (y := .sl 1 (zs.map cU)) vw (by simp;omega) fun j hj => ?_
   simp only [List.nil_append,List.length_nil,Nat.zero_add]
   refine EndQ.frz j 1 0 _ (zs.map cU) σ rfl (Store.set_same _ _ _) (by simp) (vq hi hj) ⟨rfl,?_⟩
   rw [List.drop_zero,List.take_of_length_le (by simp)]
theorem ze9 (p:List Seg) (h:p.length≤1000000) (ho:∀ s ∈ p,s.ok):Pur Tryz.prog 110 [.sl 2 (p.map Seg.c)] (.sl 2 (p.map Seg.c)):=by
 intro σ
 refine zg Tst.F110 (by simp [Tst.F110,Fn.mkX]) ?_
 simp only [Tst.F110,Fn.mkX,Tst.b110]
 simp only [↓vcPre,↓z0,↓reduceIte,vcPost,vcStd,Nat.reduceEqDiff,reduceCtorEq,Nat.reduceAdd,Nat.reduceLeDiff,Int.reduceLT,Int.reduceLE,↓u_setN]
 refine LoopQ.inv (S:=Nat×AV×Store) (fun q=>[(3,q.2.1),(6,.sl 2 (p.map Seg.c)),(7,.int .i64 (p.length:Int)),(8,.int .i64 (q.1:Int))]) (fun q=>q.2.2)
  (fun q=>q.1≤p.length∧Store.sub σ q.2.2∧Own 2 σ ((p.take q.1).map Seg.c) q.2.1 q.2.2) (fun q=>p.length+1 - q.1) (0,.nils,σ) rfl (Store.sub_refl _) ⟨by simp only;omega,Store.sub_refl _,.nil⟩ ?_
 rintro ⟨k,v,s⟩ ⟨hk,hs,ho'⟩
 simp only at hk hs ho'
 simp only [↓vcPre,↓z0,↓reduceIte,vcPost,vcStd,Nat.reduceEqDiff,reduceCtorEq,Nat.reduceAdd,Nat.reduceLeDiff,Int.reduceLT,Int.reduceLE,↓u_setN]
 refine ⟨fun c1 => ?_,fun c1 => ?_⟩
 ·have ek:IntKind.i64.wrap ((k:Int)+1)=((k+1:Nat):Int):=by rw [zd (by unfold I64;omega)];omega
  refine ⟨c1,by simp [Seg.c],?_⟩
  refine AllocQ.i0 fun i hi => ?_
  simp only [Seg.c,Store.set_set,↓vcPre,↓z0,↓reduceIte,vcPost,vcStd,Nat.reduceEqDiff,reduceCtorEq,Nat.reduceAdd,Nat.reduceLeDiff,Int.reduceLT,Int.reduceLE,↓u_setN]
  refine (zef _ (by have:=ho _ (List.getElem_mem c1);unfold Seg.ok at this;omega)).q' ?_
  simp only [Store.set_set,↓vcPre,↓z0,↓reduceIte,vcPost,vcStd,Nat.reduceEqDiff,reduceCtorEq,Nat.reduceAdd,Nat.reduceLeDiff,Int.reduceLT,Int.reduceLE,↓u_setN]
  refine AllocQ.i1 fun j hj1 hj2 hj => ?_
  simp only [↓vcPre,↓z0,↓reduceIte,vcPost,vcStd,Nat.reduceEqDiff,reduceCtorEq,Nat.reduceAdd,Nat.reduceLeDiff,Int.reduceLT,Int.reduceLE,↓u_setN]
  refine Own.app (τ:=σ) (L:=(p.take k).map Seg.c) (Store.sub_trans hs (zo hi hj hj1)) (ho'.mono (zo hi hj hj1)) (zm (Store.set_same _ _ _) rfl) (by simp;omega) fun v' s' hs' ho'' => ?_
  rw [ek]
  refine NextQ.to (k+1,v',s') rfl (Store.sub_refl _) (by simp only;omega) ⟨by simp only;omega,hs',?_⟩
  simp only [List.take_add_one,List.getElem?_eq_getElem c1,Option.toList_some,List.map_append,List.map_cons,List.map_nil]
  exact ho''
 ·have hkl:p.take k=p:=List.take_of_length_le (by omega)
  rw [hkl] at ho'
  exact EndQ.own rfl ho' hs ⟨rfl,rfl⟩
end Go.Am
namespace Go.Am.Tsc
open Go.Proofs Go.Am.B
def t72_15:BC:=z [f 15 8 1,l 16 1 15,g 17 113 [.t 16],g 18 112 [.t 17],g 19 111 [.t 18],f 20 8 1,s 1 20 19] [1,2] (z [⟨some 21,none,.load (.ld 9 true),[.t 1]⟩,s 9 2 21] [2] .ret)
def b72:BC:=z [⟨some 1,none,.alloc (.box),[.t 0]⟩,⟨some 2,none,.alloc (.alloc [(.int .i64 0),.nils,(.int .u32 0),(.bool false),(.int .u32 0),(.bool false),(.int .u32 0),(.bool false),.nils]),[]⟩] [1,2] (z [f 3 1 1,l 4 1 3,g 5 110 [.t 4],f 6 1 1,s 1 6 5] [1,2] (.seq (z [f 7 3 1,l 8 1 7,u 9 .not 8] [1,2,9] (.cond (.t 9) (.ops [f 10 4 1,⟨none,none,.loud (.st 1),[.t 10,.c (.int .u32 0)]⟩] [1,2]) .skip)) (.seq (z [f 11 5 1,l 12 1 11,u 13 .not 12] [1,2,13] (.cond (.t 13) (.ops [f 14 6 1,⟨none,none,.loud (.st 1),[.t 14,.c (.int .u32 0)]⟩] [1,2]) .skip)) t72_15)))
def F72:Fn Tryz.prog 72:=Fn.mkX false b72 [.c 2 9 true] 22 Tryz.f72 _ Tryz.func72 (by decide) rfl Tryz.ntmps72 (by kernel_rfl) (by kernel_rfl)
end Go.Am.Tsc
namespace Go.Am
open Go.Proofs Go.Sort
def leI (a b:Int):Bool:=decide (a≤b)
def canonC (l:List Int):List Int:=ddA (l.mergeSort leI)
theorem z00 {L zs:List Int} (hp:L.Perm zs) (hs:L.Pairwise (· ≤ ·)):L=zs.mergeSort leI:=by
 have h1:(zs.mergeSort leI).Pairwise (· ≤ ·):=by
  have:=List.pairwise_mergeSort (le:=leI) (fun a b c h1 h2=>by simp only [leI,decide_eq_true_eq] at *;omega) (fun a b=>by simp only [leI,Bool.or_eq_true,decide_eq_true_eq];omega) zs
  exact this.imp fun {a b} h=>by simpa [leI] using h
 refine List.Perm.eq_of_pairwise (le:=(· ≤ ·)) (fun a b _ _ h1 h2=>by omega) hs h1 (hp.trans (List.mergeSort_perm zs leI).symm)
theorem z53 {L zs:List Int} (hp:L.Perm zs) (hs:L.Pairwise (· ≤ ·)):ddA L=canonC zs:=by rw [canonC,←z00 hp hs]
theorem z3d:∀ l:List Int,(ddA l).length≤l.length
 | []=>by simp [ddA]
 | [a]=>by simp [ddA]
 | a::b::r=>by
   have:=z3d (b::r)
   simp only [ddA]
   split <;> simp at * <;> omega
theorem z40 (l:List Int):(canonC l).length≤l.length:=by
 have:=z3d (l.mergeSort leI)
 rw [List.length_mergeSort] at this
 exact this
def canonA (a:At):At:={ a with med:=if a.hm then a.med else 0,prf:=if a.hp then a.prf else 0,cms:=canonC a.cms }
def At.cO (a:At) (v:AV):List AV:=[.int .i64 a.org,.sl 2 (a.path.map Seg.c),.int .u32 a.nxt,.bool a.hm,.int .u32 a.med,.bool a.hp,.int .u32 a.prf,.bool a.atm,v]
theorem zcx (σ:Store):ACalls Tryz.prog 111 [.nils] σ (fun r s=>r = .nils∧s=σ):=by
 refine zg Tst.F111 (by simp [Tst.F111,Fn.mkX]) ?_
 simp only [Tst.F111,Fn.mkX,Tst.b111]
 simp only [↓vcPre,↓z0,↓reduceIte,vcPost,vcStd,Nat.reduceEqDiff,reduceCtorEq,Nat.reduceAdd,Nat.reduceLeDiff,Int.reduceLT,Int.reduceLE,↓u_setN]
 exact EndQ.to _ _ rfl (Store.sub_refl _) ⟨rfl,rfl⟩
theorem qa {σ τ:Store} {g:Nat} {o:Obj} (h:Store.sub σ τ):Store.sub (σ.set g o) (τ.set g o):=fun i q hi=>by
 simp only [Store.set] at hi ⊢
 split at hi
 ·rename_i e;rw [if_pos e];exact hi
 ·rename_i e;rw [if_neg e];exact h i q hi
theorem z4m (a:At) (hc:a.cms.length≤1000000) {σ t:Store} {b r:Nat} {z:List AV} {n rr:Env→Store→Prop} {x:Nat→Env→Store→Prop} (hb:t b=some (.box a.c)) (hr:t r=some (.box z)) (hz:z.length=9) (hbr:¬ b=r) (hsub:Store.sub σ t) (hσb:σ b=none) (hσr:σ r=none)
 (h0:∀ s,canonC a.cms=[]→Store.sub σ s→s r=some (.box (({ a with cms:=[] }:At).cO .nils))→rr [(2,.ptr r 0)] s)
 (h1:∀ s g,∀ M:List Int,σ g=none→(canonC a.cms).length≤M.length→M.take (canonC a.cms).length=canonC a.cms→Store.sub (σ.set g (.arr 1 (M.map cU))) s→s r=some (.box (({ a with cms:=[] }:At).cO (.os g 1 0 (canonC a.cms).length)))→rr [(2,.ptr r 0)] s) :
 bwp Tryz.prog Tsc.t72_15 [(1,.ptr b 0),(2,.ptr r 0)] t n rr x:=by
 simp only [Tsc.t72_15]
 have hrb:¬ r=b:=fun e=>hbr e.symm
 simp only [hb,At.c,↓vcPre,↓z0,↓reduceIte,vcPost,vcStd,Nat.reduceEqDiff,reduceCtorEq,Nat.reduceAdd,Nat.reduceLeDiff,Int.reduceLT,Int.reduceLE,↓u_setN]
 refine (zew _ ⟨rfl,rfl⟩ t).Q ?_
 rintro f s ⟨i,hi,rfl,rfl⟩
 have hib:¬ b=i:=fun e=>by subst e;rw [hb] at hi;cases hi
 have hir:¬ r=i:=fun e=>by subst e;rw [hr] at hi;cases hi
 simp only [hib,hir,↓vcPre,↓z0,↓reduceIte,vcPost,vcStd,Nat.reduceEqDiff,reduceCtorEq,Nat.reduceAdd,Nat.reduceLeDiff,Int.reduceLT,Int.reduceLE,↓u_setN]
 refine (zev (Store.set_same _ _ _) (zs:=a.cms) (by simp [slc]) (by omega)).Q ?_
 rintro f s (⟨hz0,rfl,rfl⟩ | ⟨hz0,g,L,hg,hp,hl,rfl,rfl⟩)
 ·simp only [hib,hir,↓vcPre,↓z0,↓reduceIte,vcPost,vcStd,Nat.reduceEqDiff,reduceCtorEq,Nat.reduceAdd,Nat.reduceLeDiff,Int.reduceLT,Int.reduceLE,↓u_setN]
  refine (zcx _).Q ?_
  rintro f s ⟨rfl,rfl⟩
  simp only [hib,hir,hb,hr,hbr,hrb,At.c,hz,↓vcPre,↓z0,↓reduceIte,vcPost,vcStd,Nat.reduceEqDiff,reduceCtorEq,Nat.reduceAdd,Nat.reduceLeDiff,Int.reduceLT,Int.reduceLE,↓u_setN]
  rw [xn _ _ (by simp [hz]),yr]
  refine h0 _ (by rw [hz0];simp [canonC,ddA]) (za (za (za hsub (zk hsub hi)) hσb) hσr) (Store.set_same _ _ _)
 ·have hgb:¬ b=g:=fun e=>by subst e;rw [Store.set_ne _ _ hib,hb] at hg;cases hg
  have hgr:¬ r=g:=fun e=>by subst e;rw [Store.set_ne _ _ hir,hr] at hg;cases hg
  simp only [hib,hir,↓vcPre,↓z0,↓reduceIte,vcPost,vcStd,Nat.reduceEqDiff,reduceCtorEq,Nat.reduceAdd,Nat.reduceLeDiff,Int.reduceLT,Int.reduceLE,↓u_setN]
  refine (zeu (Store.set_same _ _ _) (by rw [hp.length_eq];omega)).Q ?_
  rintro f s ⟨M,m1,m2,m3,rfl,rfl⟩
  simp only [hib,hir,hb,hr,hbr,hrb,hgb,hgr,At.c,hz,↓vcPre,↓z0,↓reduceIte,vcPost,vcStd,Nat.reduceEqDiff,reduceCtorEq,Nat.reduceAdd,Nat.reduceLeDiff,Int.reduceLT,Int.reduceLE,↓u_setN]
  rw [xn _ _ (by simp [hz]),yr]
  have hcn:=z53 hp hl
  have hσi:=zk hsub hi
  have hσg:σ g=none:=by
   cases h:σ g with
   | none=>rfl
   | some o=>rw [za hsub hσi g o h] at hg;cases hg
  rw [hcn] at m2 m3 ⊢
  refine h1 _ g M hσg (by omega) m2 ?_ (Store.set_same _ _ _)
  rw [Store.set_set]
  exact za (za (qa (za hsub hσi)) (by rw [Store.set_ne _ _ hgb];exact hσb)) (by rw [Store.set_ne _ _ hgr];exact hσr)
theorem s72 (a:At) (h:a.ok) (σ:Store):ACalls Tryz.prog 72 [.agg a.c] σ (fun r s=>(canonC a.cms=[]∧r = .agg ((canonA a).cO .nils)∧s=σ) ∨
 ∃ g,∃ M:List Int,σ g=none∧(canonC a.cms).length≤M.length∧M.take (canonC a.cms).length=canonC a.cms∧r = .agg ((canonA a).cO (.os g 1 0 (canonC a.cms).length))∧s=σ.set g (.arr 1 (M.map cU))):=by
 refine zg Tsc.F72 (by simp [Tsc.F72,Fn.mkX]) ?_
 simp only [Tsc.F72,Fn.mkX,Tsc.b72]
 simp only [At.c,↓vcPre,↓z0,↓reduceIte,vcPost,vcStd,Nat.reduceEqDiff,reduceCtorEq,Nat.reduceAdd,Nat.reduceLeDiff,Int.reduceLT,Int.reduceLE,↓u_setN]
 refine AllocQ.i0 fun b hb => ?_
 simp only [At.c,↓vcPre,↓z0,↓reduceIte,vcPost,vcStd,Nat.reduceEqDiff,reduceCtorEq,Nat.reduceAdd,Nat.reduceLeDiff,Int.reduceLT,Int.reduceLE,↓u_setN]
 refine AllocQ.i1 fun r hr1 hr2 hr => ?_
 simp only [hr1,hr2,↓vcPre,↓z0,↓reduceIte,vcPost,vcStd,Nat.reduceEqDiff,reduceCtorEq,Nat.reduceAdd,Nat.reduceLeDiff,Int.reduceLT,Int.reduceLE,↓u_setN]
 refine (ze9 a.path h.1 h.2.1).Q ?_
 have hsb:∀ X Y Z:Obj,Store.sub σ (((σ.set b X).set r Y).set b Z):=fun X Y Z=>za (zo hb hr hr1) hb
 cases hm:a.hm <;> cases hp:a.hp
 all_goals
  simp only [hr1,hr2,Store.set_set,hm,hp,↓vcPre,↓z0,↓reduceIte,vcPost,vcStd,Nat.reduceEqDiff,reduceCtorEq,Nat.reduceAdd,Nat.reduceLeDiff,Int.reduceLT,Int.reduceLE,↓u_setN]
  refine z4m { a with med:=if a.hm then a.med else 0,prf:=if a.hp then a.prf else 0 } h.2.2 (by simp [At.c,hm,hp]) (by rw [Store.set_ne _ _ hr1,Store.set_same]) rfl hr2 (hsb _ _ _) hb hr ?_ ?_
  ·intro s hcz hss hsr
   refine EndQ.to σ (.agg ((canonA a).cO .nils)) ?_ hss (.inl ⟨hcz,rfl,rfl⟩)
   show Env.res [(2,AV.ptr r 0)] s [RS.c 2 9 true]=_
   simp only [hsr,At.cO,canonA,hm,hp,↓vcPre,↓z0,↓reduceIte,vcPost,vcStd,Nat.reduceEqDiff,reduceCtorEq,Nat.reduceAdd,Nat.reduceLeDiff,Int.reduceLT,Int.reduceLE,↓u_setN]
  ·intro s g M m1 m2 m3 m4 hsr
   refine EndQ.to (σ.set g (.arr 1 (M.map cU))) (.agg ((canonA a).cO (.os g 1 0 (canonC a.cms).length))) ?_ m4 (.inr ⟨g,M,m1,m2,m3,rfl,rfl⟩)
   show Env.res [(2,AV.ptr r 0)] s [RS.c 2 9 true]=_
   simp only [hsr,At.cO,canonA,hm,hp,↓vcPre,↓z0,↓reduceIte,vcPost,vcStd,Nat.reduceEqDiff,reduceCtorEq,Nat.reduceAdd,Nat.reduceLeDiff,Int.reduceLT,Int.reduceLE,↓u_setN]
theorem c72 (a:At) (h:a.ok):Pur Tryz.prog 72 [.agg a.c] (.agg (canonA a).c):=by
 intro σ
 refine (s72 a h σ).weakRes ?_
 rintro r s (⟨hz,rfl,rfl⟩ | ⟨g,M,m1,m2,m3,rfl,rfl⟩)
 ·refine Weak.agg (WeakL.nil 8 1 rfl (WeakL.pure ⟨?_,rfl,?_⟩))
  ·intro c hc
   simp [At.cO] at hc
   rcases hc with rfl | rfl | rfl | rfl | rfl | rfl | rfl | rfl | rfl <;> rfl
  ·simp [At.cO,At.c,canonA,hz]
 ·refine Weak.agg (WeakL.freeze 8 rfl (Store.set_same _ _ _) (by simpa using m2) (WeakL.forget (fun i o hi => ?_) (WeakL.pure ⟨?_,rfl,?_⟩)))
  ·have:i≠g:=fun e=>by subst e;rw [m1] at hi;cases hi
   rw [Store.del_ne _ this,Store.set_ne _ _ this];exact hi
  ·intro c hc
   simp [At.cO] at hc
   rcases hc with rfl | rfl | rfl | rfl | rfl | rfl | rfl | rfl | rfl <;> rfl
  ·simp only [At.cO,At.c,canonA,List.set_cons_succ,List.set_cons_zero,List.drop_zero,←List.map_take,m3]
end Go.Am
namespace Go.Am
open Go.Proofs Go.Sort
theorem zae (x:Int):Pur Tryz.prog 148 [.int .i64 x] (.bool false):=by
 refine zp Tst.F148 (by simp [Tst.F148,Fn.mkX]) fun σ => ?_
 simp only [Tst.F148,Fn.mkX,Tst.b148]
 simp only [↓vcPre,↓z0,↓reduceIte,vcPost,vcStd,Nat.reduceEqDiff,reduceCtorEq,Nat.reduceAdd,Nat.reduceLeDiff,Int.reduceLT,Int.reduceLE,↓u_setN]
theorem z6g (x y:Int):Pur Tryz.prog 115 [.int .i64 x,.int .i64 y] (.int .i64 (cmpI x y)):=by
 refine zp Tst.F115 (by simp [Tst.F115,Fn.mkX]) fun σ => ?_
 simp only [Tst.F115,Fn.mkX,Tst.b115]
 simp only [↓vcPre,↓z0,↓reduceIte,vcPost,vcStd,Nat.reduceEqDiff,reduceCtorEq,Nat.reduceAdd,Nat.reduceLeDiff,Int.reduceLT,Int.reduceLE,↓u_setN]
 refine (zae x).Q ?_
 simp only [↓vcPre,↓z0,↓reduceIte,vcPost,vcStd,Nat.reduceEqDiff,reduceCtorEq,Nat.reduceAdd,Nat.reduceLeDiff,Int.reduceLT,Int.reduceLE,↓u_setN]
 refine (zae y).Q ?_
 simp only [↓vcPre,↓z0,↓reduceIte,vcPost,vcStd,Nat.reduceEqDiff,reduceCtorEq,Nat.reduceAdd,Nat.reduceLeDiff,Int.reduceLT,Int.reduceLE,↓u_setN]
 refine ⟨fun h1=>by simp [cmpI,h1],fun h1=>⟨fun h2=>by simp [cmpI,h1,h2],fun h2=>by simp [cmpI,h1,h2]⟩⟩
theorem z3y (x y:Int):Pur Tryz.prog 117 [.int .u32 x,.int .u32 y] (.int .i64 (cmpI x y)):=by
 refine zp Tst.F117 (by simp [Tst.F117,Fn.mkX]) fun σ => ?_
 simp only [Tst.F117,Fn.mkX,Tst.b117]
 simp only [↓vcPre,↓z0,↓reduceIte,vcPost,vcStd,Nat.reduceEqDiff,reduceCtorEq,Nat.reduceAdd,Nat.reduceLeDiff,Int.reduceLT,Int.reduceLE,↓u_setN]
 refine (z6h x).Q ?_
 simp only [↓vcPre,↓z0,↓reduceIte,vcPost,vcStd,Nat.reduceEqDiff,reduceCtorEq,Nat.reduceAdd,Nat.reduceLeDiff,Int.reduceLT,Int.reduceLE,↓u_setN]
 refine (z6h y).Q ?_
 simp only [↓vcPre,↓z0,↓reduceIte,vcPost,vcStd,Nat.reduceEqDiff,reduceCtorEq,Nat.reduceAdd,Nat.reduceLeDiff,Int.reduceLT,Int.reduceLE,↓u_setN]
 refine ⟨fun h1=>by simp [cmpI,h1],fun h1=>⟨fun h2=>by simp [cmpI,h1,h2],fun h2=>by simp [cmpI,h1,h2]⟩⟩
def truthF (b:Bool):Int:=if b then 1 else 0
theorem z0m (b:Bool):Pur Tryz.prog 118 [.bool b] (.int .i64 (truthF b)):=by
 refine zp Tst.F118 (by simp [Tst.F118,Fn.mkX]) fun σ => ?_
 simp only [Tst.F118,Fn.mkX,Tst.b118]
 cases b <;> simp only [↓vcPre,↓z0,↓reduceIte,vcPost,vcStd,Nat.reduceEqDiff,reduceCtorEq,Nat.reduceAdd,Nat.reduceLeDiff,Int.reduceLT,Int.reduceLE,↓u_setN] <;> rfl
def orL:List Int→Int
 | []=>0
 | x::r=>if x=0 then orL r else x
def cI (x:Int):List AV:=[.int .i64 x]
theorem zar (xs:List Int) (hx:xs.length<1000) {σ:Store} {i:Nat} (hi:σ i=some (.arr 1 (xs.map cI))):ACalls Tryz.prog 114 [.os i 1 0 xs.length] σ (fun r s=>s=σ∧r = .int .i64 (orL xs)):=by
 refine zg Tst.F114 (by simp [Tst.F114,Fn.mkX]) ?_
 simp only [Tst.F114,Fn.mkX,Tst.b114]
 simp only [hi,↓vcPre,↓z0,↓reduceIte,vcPost,vcStd,Nat.reduceEqDiff,reduceCtorEq,Nat.reduceAdd,Nat.reduceLeDiff,Int.reduceLT,Int.reduceLE,↓u_setN]
 refine LoopQ.inv (S:=Nat) (fun k=>[(3,.int .i64 0),(6,.os i 1 0 xs.length),(7,.int .i64 (xs.length:Int)),(8,.int .i64 (k:Int))]) (fun _=>σ) (fun k=>k≤xs.length∧orL (xs.drop k)=orL xs) (fun k=>xs.length+1 - k) 0 rfl (Store.sub_refl _) ⟨by omega,rfl⟩ ?_
 rintro k ⟨hk,ho⟩
 simp only [hi,↓vcPre,↓z0,↓reduceIte,vcPost,vcStd,Nat.reduceEqDiff,reduceCtorEq,Nat.reduceAdd,Nat.reduceLeDiff,Int.reduceLT,Int.reduceLE,↓u_setN]
 refine ⟨fun c1 => ?_,fun c1 => ?_⟩
 ·have ek:IntKind.i64.wrap ((k:Int)+1)=((k+1:Nat):Int):=by rw [zd (by unfold I64;omega)];omega
  rw [List.drop_eq_getElem_cons c1] at ho
  simp only [orL] at ho
  simp only [Nat.zero_add]
  refine ⟨c1,c1,by simp [cI],?_⟩
  simp only [cI,Nat.zero_add,↓vcPre,↓z0,↓reduceIte,vcPost,vcStd,Nat.reduceEqDiff,reduceCtorEq,Nat.reduceAdd,Nat.reduceLeDiff,Int.reduceLT,Int.reduceLE,↓u_setN]
  refine ⟨fun g1 => ?_,fun g1 => ?_⟩
  ·rw [if_neg g1] at ho
   exact EndQ.to _ _ rfl (Store.sub_refl _) ⟨rfl,by rw [ho]⟩
  ·rw [if_pos g1] at ho
   rw [ek]
   exact NextQ.to (k+1) rfl (Store.sub_refl _) (by omega) ⟨by omega,ho⟩
 ·rw [List.drop_eq_nil_of_le (by omega)] at ho
  exact EndQ.to _ _ rfl (Store.sub_refl _) ⟨rfl,by rw [←ho];rfl⟩
def cmpG {α:Type} (f:α→α→Int):List α→List α→Int
 | [],[]=>0
 | [],_::_ => -1
 | _::_,[]=>1
 | a::r,b::s=>if f a b=0 then cmpG f r s else f a b
theorem zad (l m:List Int) (hl:l.length≤1000000) (hm:m.length≤1000000):Pur Tryz.prog 119 [.sl 1 (l.map cU),.sl 1 (m.map cU)] (.int .i64 (cmpG cmpI l m)):=by
 refine zp Tst.F119 (by simp [Tst.F119,Fn.mkX]) fun σ => ?_
 simp only [Tst.F119,Fn.mkX,Tst.b119]
 simp only [↓vcPre,↓z0,↓reduceIte,vcPost,vcStd,Nat.reduceEqDiff,reduceCtorEq,Nat.reduceAdd,Nat.reduceLeDiff,Int.reduceLT,Int.reduceLE,↓u_setN]
 refine LoopQ.inv (S:=Nat) (fun k=>[(0,.sl 1 (l.map cU)),(1,.sl 1 (m.map cU)),(9,.sl 1 (l.map cU)),(10,.int .i64 (l.length:Int)),(11,.int .i64 (k:Int))]) (fun _=>σ) (fun k=>k≤l.length∧k≤m.length∧cmpG cmpI (l.drop k) (m.drop k)=cmpG cmpI l m) (fun k=>l.length+1 - k) 0 rfl (Store.sub_refl _) ⟨by omega,by omega,rfl⟩ ?_
 rintro k ⟨hk,hk2,ho⟩
 simp only [↓vcPre,↓z0,↓reduceIte,vcPost,vcStd,Nat.reduceEqDiff,reduceCtorEq,Nat.reduceAdd,Nat.reduceLeDiff,Int.reduceLT,Int.reduceLE,↓u_setN]
 refine ⟨fun c1 => ?_,fun c1 => ?_⟩
 ·have ek:IntKind.i64.wrap ((k:Int)+1)=((k+1:Nat):Int):=by rw [zd (by unfold I64;omega)];omega
  rw [List.drop_eq_getElem_cons c1] at ho
  refine ⟨c1,by simp [cU],?_⟩
  simp only [cU,↓vcPre,↓z0,↓reduceIte,vcPost,vcStd,Nat.reduceEqDiff,reduceCtorEq,Nat.reduceAdd,Nat.reduceLeDiff,Int.reduceLT,Int.reduceLE,↓u_setN]
  refine ⟨fun g1 => ?_,fun g1 => ?_⟩
  ·rw [show List.drop k m=[] from List.drop_eq_nil_of_le (by omega)] at ho
   rw [←ho];rfl
  ·rw [List.drop_eq_getElem_cons (l:=m) (by omega)] at ho
   simp only [cmpG] at ho
   refine ⟨by omega,?_⟩
   refine (z3y _ _).Q ?_
   simp only [↓vcPre,↓z0,↓reduceIte,vcPost,vcStd,Nat.reduceEqDiff,reduceCtorEq,Nat.reduceAdd,Nat.reduceLeDiff,Int.reduceLT,Int.reduceLE,↓u_setN]
   refine ⟨fun g2 => ?_,fun g2 => ?_⟩
   ·rw [if_neg g2] at ho
    rw [ho]
   ·rw [if_pos g2] at ho
    rw [ek]
    exact NextQ.to (k+1) rfl (Store.sub_refl _) (by omega) ⟨by omega,by omega,ho⟩
 ·rw [show List.drop k l=[] from List.drop_eq_nil_of_le (by omega)] at ho
  refine ⟨fun g1 => ?_,fun g1 => ?_⟩
  ·rw [List.drop_eq_getElem_cons (l:=m) (by omega)] at ho
   rw [←ho];rfl
  ·rw [show List.drop k m=[] from List.drop_eq_nil_of_le (by omega)] at ho
   rw [←ho];rfl
theorem zbb {k:IntKind} {a b c:Int}:alv (.mksl 1 3) [.int k a,.int k b,.int k c]=some (.arr 1 [[.int k a],[.int k b],[.int k c]],fun id => .os id 1 0 3):=by rfl
theorem zbc {k:IntKind} {a b c d e f g h i:Int}:alv (.mksl 1 9) [.int k a,.int k b,.int k c,.int k d,.int k e,.int k f,.int k g,.int k h,.int k i]=some (.arr 1 [[.int k a],[.int k b],[.int k c],[.int k d],[.int k e],[.int k f],[.int k g],[.int k h],[.int k i]],fun id => .os id 1 0 9):=by rfl
def cmpSeg (a b:Seg):Int:=orL [cmpI a.kind b.kind,cmpI a.ls.length b.ls.length,cmpG cmpI a.ls b.ls]
theorem zeg (a b:Seg) (ha:a.ok) (hb:b.ok):Pur Tryz.prog 150 [.agg a.c,.agg b.c] (.int .i64 (cmpSeg a b)):=by
 refine zp Tst.F150 (by simp [Tst.F150,Fn.mkX]) fun σ => ?_
 simp only [Tst.F150,Fn.mkX,Tst.b150,Seg.c]
 simp only [↓vcPre,↓z0,↓reduceIte,vcPost,vcStd,Nat.reduceEqDiff,reduceCtorEq,Nat.reduceAdd,Nat.reduceLeDiff,Int.reduceLT,Int.reduceLE,↓u_setN]
 refine AllocQ.i0 fun i hi => ?_
 simp only [↓vcPre,↓z0,↓reduceIte,vcPost,vcStd,Nat.reduceEqDiff,reduceCtorEq,Nat.reduceAdd,Nat.reduceLeDiff,Int.reduceLT,Int.reduceLE,↓u_setN]
 refine AllocQ.i1 fun j hj1 hj2 hj => ?_
 simp only [*,↓vcPre,↓z0,↓reduceIte,vcPost,vcStd,Nat.reduceEqDiff,reduceCtorEq,Nat.reduceAdd,Nat.reduceLeDiff,Int.reduceLT,Int.reduceLE,↓u_setN]
 have hz:∀ n:Nat,n≤1000000→IntKind.i64.wrap (n:Int)=n:=fun n hn=>zd (by unfold I64;omega)
 refine (z6g _ _).Q ?_
 simp only [*,↓vcPre,↓z0,↓reduceIte,vcPost,vcStd,Nat.reduceEqDiff,reduceCtorEq,Nat.reduceAdd,Nat.reduceLeDiff,Int.reduceLT,Int.reduceLE,↓u_setN]
 refine (z6g _ _).Q ?_
 simp only [*,↓vcPre,↓z0,↓reduceIte,vcPost,vcStd,Nat.reduceEqDiff,reduceCtorEq,Nat.reduceAdd,Nat.reduceLeDiff,Int.reduceLT,Int.reduceLE,↓u_setN]
 refine (zad _ _ ha hb).Q ?_
 simp only [zbb,↓vcPre,↓z0,↓reduceIte,vcPost,vcStd,Nat.reduceEqDiff,reduceCtorEq,Nat.reduceAdd,Nat.reduceLeDiff,Int.reduceLT,Int.reduceLE,↓u_setN]
 refine AllocQ.i2 fun g hg1 hg2 hg3 hg4 hg => ?_
 simp only [↓vcPre,↓z0,↓reduceIte,vcPost,vcStd,Nat.reduceEqDiff,reduceCtorEq,Nat.reduceAdd,Nat.reduceLeDiff,Int.reduceLT,Int.reduceLE,↓u_setN]
 refine (zar [cmpI a.kind b.kind,cmpI a.ls.length b.ls.length,cmpG cmpI a.ls b.ls] (by simp) (Store.set_same _ _ _)).Q ?_
 rintro r s ⟨h1,rfl⟩
 subst h1
 refine ⟨Store.sub_refl _,?_⟩
 simp only [↓vcPre,↓z0,↓reduceIte,vcPost,vcStd,Nat.reduceEqDiff,reduceCtorEq,Nat.reduceAdd,Nat.reduceLeDiff,Int.reduceLT,Int.reduceLE,↓u_setN]
 exact ⟨rfl,za (zo hi hj hj1) hg⟩
def cmpPath (a b:List Seg):Int:=cmpG cmpSeg a b
theorem zey (l m:List Seg) (hl:l.length≤1000000) (hm:m.length≤1000000) (hlo:∀ s ∈ l,s.ok) (hmo:∀ s ∈ m,s.ok):Pur Tryz.prog 149 [.sl 2 (l.map Seg.c),.sl 2 (m.map Seg.c),.fn 150 []] (.int .i64 (cmpPath l m)):=by
 refine zp Tst.F149 (by simp [Tst.F149,Fn.mkX]) fun σ => ?_
 simp only [Tst.F149,Fn.mkX,Tst.b149]
 simp only [↓vcPre,↓z0,↓reduceIte,vcPost,vcStd,Nat.reduceEqDiff,reduceCtorEq,Nat.reduceAdd,Nat.reduceLeDiff,Int.reduceLT,Int.reduceLE,↓u_setN]
 refine LoopQ.inv (S:=Nat) (fun k=>[(0,.sl 2 (l.map Seg.c)),(1,.sl 2 (m.map Seg.c)),(2,.fn 150 []),(11,.sl 2 (l.map Seg.c)),(12,.int .i64 (l.length:Int)),(13,.int .i64 (k:Int))]) (fun _=>σ) (fun k=>k≤l.length∧k≤m.length∧cmpG cmpSeg (l.drop k) (m.drop k)=cmpG cmpSeg l m) (fun k=>l.length+1 - k) 0 rfl (Store.sub_refl _) ⟨by omega,by omega,rfl⟩ ?_
 rintro k ⟨hk,hk2,ho⟩
 simp only [↓vcPre,↓z0,↓reduceIte,vcPost,vcStd,Nat.reduceEqDiff,reduceCtorEq,Nat.reduceAdd,Nat.reduceLeDiff,Int.reduceLT,Int.reduceLE,↓u_setN]
 refine ⟨fun c1 => ?_,fun c1 => ?_⟩
 ·have ek:IntKind.i64.wrap ((k:Int)+1)=((k+1:Nat):Int):=by rw [zd (by unfold I64;omega)];omega
  rw [List.drop_eq_getElem_cons c1] at ho
  refine ⟨c1,by simp [Seg.c],?_⟩
  refine AllocQ.i0 fun i hi => ?_
  simp only [Seg.c,↓vcPre,↓z0,↓reduceIte,vcPost,vcStd,Nat.reduceEqDiff,reduceCtorEq,Nat.reduceAdd,Nat.reduceLeDiff,Int.reduceLT,Int.reduceLE,↓u_setN]
  refine ⟨fun g1 => ?_,fun g1 => ?_⟩
  ·rw [show List.drop k m=[] from List.drop_eq_nil_of_le (by omega)] at ho
   exact ⟨by rw [cmpPath,←ho];rfl,by rw [Store.set_set];exact Store.sub_set _ _ _ hi⟩
  ·rw [List.drop_eq_getElem_cons (l:=m) (by omega)] at ho
   simp only [cmpG] at ho
   rw [Store.set_set]
   refine ⟨by omega,?_⟩
   refine AllocQ.i1 fun j hj1 hj2 hj => ?_
   simp only [Seg.c,Store.set_set,hj1,hj2,↓vcPre,↓z0,↓reduceIte,vcPost,vcStd,Nat.reduceEqDiff,reduceCtorEq,Nat.reduceAdd,Nat.reduceLeDiff,Int.reduceLT,Int.reduceLE,↓u_setN]
   refine (zeg _ _ (hlo _ (List.getElem_mem c1)) (hmo _ (List.getElem_mem (by omega)))).Q ?_
   simp only [↓vcPre,↓z0,↓reduceIte,vcPost,vcStd,Nat.reduceEqDiff,reduceCtorEq,Nat.reduceAdd,Nat.reduceLeDiff,Int.reduceLT,Int.reduceLE,↓u_setN]
   refine ⟨fun g2 => ?_,fun g2 => ?_⟩
   ·rw [if_neg g2] at ho
    exact ⟨by rw [cmpPath,←ho],zo hi hj hj1⟩
   ·rw [if_pos g2] at ho
    rw [ek]
    exact NextQ.to (k+1) rfl (zo hi hj hj1) (by omega) ⟨by omega,by omega,ho⟩
 ·rw [show List.drop k l=[] from List.drop_eq_nil_of_le (by omega)] at ho
  refine ⟨fun g1 => ?_,fun g1 => ?_⟩
  ·rw [List.drop_eq_getElem_cons (l:=m) (by omega)] at ho
   rw [cmpPath,←ho];rfl
  ·rw [show List.drop k m=[] from List.drop_eq_nil_of_le (by omega)] at ho
   rw [cmpPath,←ho];rfl
theorem zea (l m:List Seg) (hl:l.length≤1000000) (hm:m.length≤1000000) (hlo:∀ s ∈ l,s.ok) (hmo:∀ s ∈ m,s.ok):Pur Tryz.prog 116 [.sl 2 (l.map Seg.c),.sl 2 (m.map Seg.c)] (.int .i64 (cmpPath l m)):=by
 refine zp Tst.F116 (by simp [Tst.F116,Fn.mkX]) fun σ => ?_
 simp only [Tst.F116,Fn.mkX,Tst.b116]
 simp only [↓vcPre,↓z0,↓reduceIte,vcPost,vcStd,Nat.reduceEqDiff,reduceCtorEq,Nat.reduceAdd,Nat.reduceLeDiff,Int.reduceLT,Int.reduceLE,↓u_setN]
 refine (zey l m hl hm hlo hmo).Q ?_
 simp only [↓vcPre,↓z0,↓reduceIte,vcPost,vcStd,Nat.reduceEqDiff,reduceCtorEq,Nat.reduceAdd,Nat.reduceLeDiff,Int.reduceLT,Int.reduceLE,↓u_setN]
def cmpAs (a b:At):Int:=orL [cmpI a.org b.org,cmpPath a.path b.path,cmpI a.nxt b.nxt,IntKind.i64.wrap (truthF a.hm - truthF b.hm),cmpI a.med b.med,IntKind.i64.wrap (truthF a.hp - truthF b.hp),cmpI a.prf b.prf,IntKind.i64.wrap (truthF a.atm - truthF b.atm),cmpG cmpI a.cms b.cms]
theorem xg {a:At} (h:a.ok):(canonA a).ok:=⟨h.1,h.2.1,Nat.le_trans (z40 _) h.2.2⟩
set_option maxRecDepth 20000 in
theorem c73 (a b:At) (ha:a.ok) (hb:b.ok):Pur Tryz.prog 73 [.agg a.c,.agg b.c] (.int .i64 (cmpAs (canonA a) (canonA b))):=by
 refine zp Tst.F73 (by simp [Tst.F73,Fn.mkX]) fun σ => ?_
 simp only [Tst.F73,Fn.mkX,Tst.b73]
 simp only [↓vcPre,↓z0,↓reduceIte,vcPost,vcStd,Nat.reduceEqDiff,reduceCtorEq,Nat.reduceAdd,Nat.reduceLeDiff,Int.reduceLT,Int.reduceLE,↓u_setN]
 have e9:∀ x:At,x.c.length=9:=fun _=>rfl
 have t9:∀ x:At,List.take 9 x.c=x.c:=fun _=>rfl
 have p9:∀ x y:At,splice 0 x.c y.c=some x.c:=fun x y=>xn _ _ rfl
 refine AllocQ.i0 fun i hi => ?_
 simp only [↓vcPre,↓z0,↓reduceIte,vcPost,vcStd,Nat.reduceEqDiff,reduceCtorEq,Nat.reduceAdd,Nat.reduceLeDiff,Int.reduceLT,Int.reduceLE,↓u_setN]
 refine AllocQ.i1 fun j hj1 hj2 hj => ?_
 simp only [hj1,hj2,e9,t9,p9,Nat.le_refl,↓vcPre,↓z0,↓reduceIte,vcPost,vcStd,Nat.reduceEqDiff,reduceCtorEq,Nat.reduceAdd,Nat.reduceLeDiff,Int.reduceLT,Int.reduceLE,↓u_setN]
 refine (c72 a ha).Q ?_
 simp only [hj1,hj2,e9,t9,p9,Nat.le_refl,↓vcPre,↓z0,↓reduceIte,vcPost,vcStd,Nat.reduceEqDiff,reduceCtorEq,Nat.reduceAdd,Nat.reduceLeDiff,Int.reduceLT,Int.reduceLE,↓u_setN]
 refine (c72 b hb).Q ?_
 simp only [hj1,hj2,e9,t9,p9,Nat.le_refl,Store.set_set,↓vcPre,↓z0,↓reduceIte,vcPost,vcStd,Nat.reduceEqDiff,reduceCtorEq,Nat.reduceAdd,Nat.reduceLeDiff,Int.reduceLT,Int.reduceLE,↓u_setN]
 have hsub:Store.sub σ ((((σ.set i (Obj.box a.c)).set j (Obj.box b.c)).set i (Obj.box (canonA a).c)).set j (Obj.box (canonA b).c)):=za (za (zo hi hj hj1) hi) hj
 generalize ((((σ.set i (Obj.box a.c)).set j (Obj.box b.c)).set i (Obj.box (canonA a).c)).set j (Obj.box (canonA b).c))=T at hsub ⊢
 have ha1:=xg ha
 have hb1:=xg hb
 generalize canonA a=a1 at ha1 ⊢
 generalize canonA b=b1 at hb1 ⊢
 clear e9 t9 p9
 simp only [At.c,↓vcPre,↓z0,↓reduceIte,vcPost,vcStd,Nat.reduceEqDiff,reduceCtorEq,Nat.reduceAdd,Nat.reduceLeDiff,Int.reduceLT,Int.reduceLE,↓u_setN]
 refine (z6g _ _).Q ?_
 simp only [↓vcPre,↓z0,↓reduceIte,vcPost,vcStd,Nat.reduceEqDiff,reduceCtorEq,Nat.reduceAdd,Nat.reduceLeDiff,Int.reduceLT,Int.reduceLE,↓u_setN]
 refine (zea _ _ ha1.1 hb1.1 ha1.2.1 hb1.2.1).Q ?_
 simp only [↓vcPre,↓z0,↓reduceIte,vcPost,vcStd,Nat.reduceEqDiff,reduceCtorEq,Nat.reduceAdd,Nat.reduceLeDiff,Int.reduceLT,Int.reduceLE,↓u_setN]
 refine (z3y _ _).Q ?_
 simp only [↓vcPre,↓z0,↓reduceIte,vcPost,vcStd,Nat.reduceEqDiff,reduceCtorEq,Nat.reduceAdd,Nat.reduceLeDiff,Int.reduceLT,Int.reduceLE,↓u_setN]
 refine (z0m _).Q ?_
 simp only [↓vcPre,↓z0,↓reduceIte,vcPost,vcStd,Nat.reduceEqDiff,reduceCtorEq,Nat.reduceAdd,Nat.reduceLeDiff,Int.reduceLT,Int.reduceLE,↓u_setN]
 refine (z0m _).Q ?_
 simp only [↓vcPre,↓z0,↓reduceIte,vcPost,vcStd,Nat.reduceEqDiff,reduceCtorEq,Nat.reduceAdd,Nat.reduceLeDiff,Int.reduceLT,Int.reduceLE,↓u_setN]
 refine (z3y _ _).Q ?_
 simp only [↓vcPre,↓z0,↓reduceIte,vcPost,vcStd,Nat.reduceEqDiff,reduceCtorEq,Nat.reduceAdd,Nat.reduceLeDiff,Int.reduceLT,Int.reduceLE,↓u_setN]
 refine (z0m _).Q ?_
 simp only [↓vcPre,↓z0,↓reduceIte,vcPost,vcStd,Nat.reduceEqDiff,reduceCtorEq,Nat.reduceAdd,Nat.reduceLeDiff,Int.reduceLT,Int.reduceLE,↓u_setN]
 refine (z0m _).Q ?_
 simp only [↓vcPre,↓z0,↓reduceIte,vcPost,vcStd,Nat.reduceEqDiff,reduceCtorEq,Nat.reduceAdd,Nat.reduceLeDiff,Int.reduceLT,Int.reduceLE,↓u_setN]
 refine (z3y _ _).Q ?_
 simp only [↓vcPre,↓z0,↓reduceIte,vcPost,vcStd,Nat.reduceEqDiff,reduceCtorEq,Nat.reduceAdd,Nat.reduceLeDiff,Int.reduceLT,Int.reduceLE,↓u_setN]
 refine (z0m _).Q ?_
 simp only [↓vcPre,↓z0,↓reduceIte,vcPost,vcStd,Nat.reduceEqDiff,reduceCtorEq,Nat.reduceAdd,Nat.reduceLeDiff,Int.reduceLT,Int.reduceLE,↓u_setN]
 refine (z0m _).Q ?_
 simp only [↓vcPre,↓z0,↓reduceIte,vcPost,vcStd,Nat.reduceEqDiff,reduceCtorEq,Nat.reduceAdd,Nat.reduceLeDiff,Int.reduceLT,Int.reduceLE,↓u_setN]
 refine (zad _ _ ha1.2.2 hb1.2.2).Q ?_
 simp only [zbc,↓vcPre,↓z0,↓reduceIte,vcPost,vcStd,Nat.reduceEqDiff,reduceCtorEq,Nat.reduceAdd,Nat.reduceLeDiff,Int.reduceLT,Int.reduceLE,↓u_setN]
 refine AllocQ.i0 fun g hg => ?_
 simp only [↓vcPre,↓z0,↓reduceIte,vcPost,vcStd,Nat.reduceEqDiff,reduceCtorEq,Nat.reduceAdd,Nat.reduceLeDiff,Int.reduceLT,Int.reduceLE,↓u_setN]
 refine (zar [cmpI a1.org b1.org,cmpPath a1.path b1.path,cmpI a1.nxt b1.nxt,IntKind.i64.wrap (truthF a1.hm - truthF b1.hm),cmpI a1.med b1.med,IntKind.i64.wrap (truthF a1.hp - truthF b1.hp),cmpI a1.prf b1.prf,IntKind.i64.wrap (truthF a1.atm - truthF b1.atm),cmpG cmpI a1.cms b1.cms] (by simp) (Store.set_same _ _ _)).Q ?_
 rintro r s ⟨h1,rfl⟩
 subst h1
 refine ⟨Store.sub_refl _,?_⟩
 simp only [↓vcPre,↓z0,↓reduceIte,vcPost,vcStd,Nat.reduceEqDiff,reduceCtorEq,Nat.reduceAdd,Nat.reduceLeDiff,Int.reduceLT,Int.reduceLE,↓u_setN]
 exact ⟨rfl,za hsub (zk hsub hg)⟩
theorem c29 (a b:At) (ha:a.ok) (hb:b.ok):Pur Tryz.prog 29 [.agg a.c,.agg b.c] (.bool (decide (cmpAs (canonA a) (canonA b)=0))):=by
 refine zp Tst.F29 (by simp [Tst.F29,Fn.mkX]) fun σ => ?_
 simp only [Tst.F29,Fn.mkX,Tst.b29]
 simp only [↓vcPre,↓z0,↓reduceIte,vcPost,vcStd,Nat.reduceEqDiff,reduceCtorEq,Nat.reduceAdd,Nat.reduceLeDiff,Int.reduceLT,Int.reduceLE,↓u_setN]
 have t9:∀ x:At,List.take 9 x.c=x.c:=fun _=>rfl
 have e9:∀ x:At,x.c.length=9:=fun _=>rfl
 refine AllocQ.i0 fun i hi => ?_
 simp only [↓vcPre,↓z0,↓reduceIte,vcPost,vcStd,Nat.reduceEqDiff,reduceCtorEq,Nat.reduceAdd,Nat.reduceLeDiff,Int.reduceLT,Int.reduceLE,↓u_setN]
 refine AllocQ.i1 fun j hj1 hj2 hj => ?_
 simp only [hj1,hj2,e9,t9,Nat.le_refl,↓vcPre,↓z0,↓reduceIte,vcPost,vcStd,Nat.reduceEqDiff,reduceCtorEq,Nat.reduceAdd,Nat.reduceLeDiff,Int.reduceLT,Int.reduceLE,↓u_setN]
 refine (c73 a b ha hb).Q ?_
 simp only [↓vcPre,↓z0,↓reduceIte,vcPost,vcStd,Nat.reduceEqDiff,reduceCtorEq,Nat.reduceAdd,Nat.reduceLeDiff,Int.reduceLT,Int.reduceLE,↓u_setN]
 exact zo hi hj hj1
end Go.Am
namespace Go.Am
open Go.Proofs Go.Sort
theorem cmpI_z {x y:Int}:cmpI x y=0↔x=y:=zx x y
theorem z03 {α:Type} {f:α→α→Int}:∀ (l m:List α),(∀ a ∈ l,∀ b ∈ m,f a b=0↔a=b)→(cmpG f l m=0↔l=m)
 | [],[],_=>by simp [cmpG]
 | [],_::_,_=>by simp [cmpG]
 | _::_,[],_=>by simp [cmpG]
 | a::r,b::s,h=>by
   have h1:=h a (by simp) b (by simp)
   have h2:=z03 r s (fun x hx y hy=>h x (by simp [hx]) y (by simp [hy]))
   simp only [cmpG]
   split
   ·rename_i h0
    rw [h2,h1.1 h0];simp
   ·rename_i h0
    constructor
    ·intro h3;exact absurd h3 h0
    ·intro h3;exact absurd (h1.2 (List.cons.inj h3).1) h0
theorem z4h:∀ (l:List Int),orL l=0↔∀ x ∈ l,x=0
 | []=>by simp [orL]
 | x::r=>by
   have:=z4h r
   simp only [orL]
   split
   ·rename_i h;rw [this];simp [h]
   ·rename_i h;simp [h]
theorem z1y {a b:Seg}:cmpSeg a b=0↔a=b:=by
 unfold cmpSeg
 rw [z4h]
 simp only [List.mem_cons,List.not_mem_nil,or_false,forall_eq_or_imp,forall_eq]
 rw [cmpI_z,cmpI_z,z03 _ _ (fun _ _ _ _=>cmpI_z)]
 constructor
 ·rintro ⟨h1,_,h3⟩
  cases a;cases b;simp_all
 ·rintro rfl;exact ⟨rfl,rfl,rfl⟩
theorem cmpPath_z {a b:List Seg}:cmpPath a b=0↔a=b:=z03 _ _ fun _ _ _ _=>z1y
theorem yh {a b:Bool}:IntKind.i64.wrap (truthF a - truthF b)=0↔a=b:=by
 cases a <;> cases b <;> decide
theorem z81 {a b:At}:cmpAs a b=0↔a=b:=by
 unfold cmpAs
 rw [z4h]
 simp only [List.mem_cons,List.not_mem_nil,or_false,forall_eq_or_imp,forall_eq]
 rw [cmpI_z,cmpPath_z,cmpI_z,yh,cmpI_z,yh,cmpI_z,yh,z03 _ _ (fun _ _ _ _=>cmpI_z)]
 constructor
 ·rintro ⟨h1,h2,h3,h4,h5,h6,h7,h8,h9⟩
  cases a;cases b;simp_all
 ·rintro rfl;exact ⟨rfl,rfl,rfl,rfl,rfl,rfl,rfl,rfl,rfl⟩
instance:DecidableEq Seg:=fun a b=>decidable_of_iff (cmpSeg a b=0) z1y
instance:DecidableEq At:=fun a b=>decidable_of_iff (cmpAs a b=0) z81
def Inc (l:List Int):Prop:=l.Pairwise (· < ·)
theorem z0n (x:Int):∀ l:List Int,x ∈ ddA l↔x ∈ l
 | []=>by simp [ddA]
 | [a]=>by simp [ddA]
 | a::b::r=>by
   have:=z0n x (b::r)
   simp only [ddA]
   split
   ·rename_i h;subst h;rw [this];simp
   ·simp only [List.mem_cons] at *;rw [this]
theorem z3c:∀ l:List Int,l.Pairwise (· ≤ ·)→Inc (ddA l)
 | [],_ => .nil
 | [a],_=>by simp [ddA,Inc]
 | a::b::r,h=>by
   obtain ⟨h1,h2⟩:=List.pairwise_cons.1 h
   have ih:=z3c (b::r) h2
   simp only [ddA]
   split
   ·exact ih
   ·rename_i hab
    refine List.pairwise_cons.2 ⟨fun x hx => ?_,ih⟩
    have hx':=(z0n x (b::r)).1 hx
    have h3:=h1 b (by simp)
    rcases List.mem_cons.1 hx' with rfl | hx''
    ·omega
    ·have h4:=(List.pairwise_cons.1 h2).1 x hx''
     omega
theorem z41 {l:List Int} {x:Int}:x ∈ canonC l↔x ∈ l:=by
 rw [canonC,z0n,(List.mergeSort_perm l leI).mem_iff]
theorem z3z (l:List Int):Inc (canonC l):=z3c _ (by
 have:=List.pairwise_mergeSort (le:=leI) (fun a b c h1 h2=>by simp only [leI,decide_eq_true_eq] at *;omega) (fun a b=>by simp only [leI,Bool.or_eq_true,decide_eq_true_eq];omega) l
 exact this.imp fun {a b} h=>by simpa [leI] using h)
theorem z8i {l m:List Int} (hl:Inc l) (hm:Inc m) (h:∀ x,x ∈ l↔x ∈ m):l=m:=by
 have nd:∀ l:List Int,Inc l→l.Nodup:=fun l h=>h.imp fun {a b} h e=>by omega
 refine List.Perm.eq_of_pairwise (le:=(· < ·)) (fun a b _ _ h1 h2=>by omega) hl hm ((List.perm_ext_iff_of_nodup (nd l hl) (nd m hm)).2 h)
end Go.Am
namespace Go.Am
structure PO {α:Type} (f:α→α→Int):Prop where
 anti:∀ a b,f b a<0↔0<f a b
 tr:∀ a b c,f a b≤0→f b c≤0→f a c≤0
theorem PO.z {α:Type} {f:α→α→Int} (h:PO f) {a b:α} (e:f a b=0):f b a=0:=by
 have h1:=h.anti a b;have h2:=h.anti b a;omega
theorem PO.lt {α:Type} {f:α→α→Int} (h:PO f) {a b c:α} (h1:f a b<0) (h2:f b c≤0):f a c<0:=by
 apply Classical.byContradiction;intro hn
 have a1:=h.anti a c;have a2:=h.anti c a;have a3:=h.anti a b;have a4:=h.anti b a
 have:=h.tr b c a h2 (by omega)
 omega
theorem PO.lt' {α:Type} {f:α→α→Int} (h:PO f) {a b c:α} (h1:f a b≤0) (h2:f b c<0):f a c<0:=by
 apply Classical.byContradiction;intro hn
 have a1:=h.anti a c;have a2:=h.anti c a;have a3:=h.anti b c;have a4:=h.anti c b
 have:=h.tr c a b (by omega) h1
 omega
def lex {α:Type} (f g:α→α→Int) (a b:α):Int:=if f a b=0 then g a b else f a b
theorem PO.lex {α:Type} {f g:α→α→Int} (hf:PO f) (hg:PO g):PO (lex f g) where
 anti a b:=by
  have h1:=hf.anti a b;have h2:=hf.anti b a;have h3:=hg.anti a b
  unfold Am.lex
  by_cases e:f a b=0
  ·rw [if_pos e,if_pos (hf.z e)];exact h3
  ·rw [if_neg e,if_neg (fun e'=>e (hf.z e'))];exact h1
 tr a b c:=by
  unfold Am.lex
  intro h1 h2
  by_cases e1:f a b=0 <;> by_cases e2:f b c=0
  ·rw [if_pos e1] at h1;rw [if_pos e2] at h2
   have h3:=hf.tr a b c (by omega) (by omega)
   have h4:=hf.tr c b a (by rw [hf.z e2];omega) (by rw [hf.z e1];omega)
   have h5:=hf.anti a c;have h6:=hf.anti c a
   rw [if_pos (by omega)];exact hg.tr a b c h1 h2
  ·rw [if_neg e2] at h2
   have:=hf.lt' (a:=a) (b:=b) (c:=c) (by omega) (by omega)
   rw [if_neg (by omega)];omega
  ·rw [if_neg e1] at h1
   have:=hf.lt (a:=a) (b:=b) (c:=c) (by omega) (by omega)
   rw [if_neg (by omega)];omega
  ·rw [if_neg e1] at h1;rw [if_neg e2] at h2
   have:=hf.lt (a:=a) (b:=b) (c:=c) (by omega) (by omega)
   rw [if_neg (by omega)];omega
theorem PO.key {α β:Type} {f:β→β→Int} (k:α→β) (h:PO f):PO fun a b=>f (k a) (k b):=⟨fun _ _=>h.anti _ _,fun _ _ _=>h.tr _ _ _⟩
theorem PO.cmpI:PO cmpI:=⟨fun a b=>by unfold Am.cmpI;split <;> split <;> (try split) <;> (try split) <;> omega,fun a b c=>by unfold Am.cmpI;split <;> split <;> (try split) <;> (try split) <;> (try split) <;> omega⟩
theorem PO.truth:PO fun a b:Bool=>IntKind.i64.wrap (truthF a - truthF b):=⟨by decide,by decide⟩
theorem PO.zero {α:Type}:PO fun _ _:α=>(0:Int):=⟨fun _ _=>by omega,fun _ _ _ _ _=>by omega⟩
theorem PO.list {α:Type} {f:α→α→Int} (h:PO f):PO (cmpG f) where
 anti:=by
  intro a
  induction a with
  | nil=>intro b;cases b <;> simp [cmpG]
  | cons x r ih =>
    intro b
    cases b with
    | nil=>simp [cmpG]
    | cons y s =>
      have h1:=h.anti x y;have h2:=h.anti y x
      simp only [cmpG]
      by_cases e:f x y=0
      ·rw [if_pos e,if_pos (h.z e)];exact ih s
      ·rw [if_neg e,if_neg (fun e'=>e (h.z e'))];exact h1
 tr:=by
  intro a
  induction a with
  | nil=>intro b c _ _;cases c <;> simp [cmpG]
  | cons x r ih =>
    intro b c
    cases b with
    | nil=>intro h1;simp [cmpG] at h1
    | cons y s =>
      cases c with
      | nil=>intro _ h2;simp [cmpG] at h2
      | cons z t =>
        simp only [cmpG]
        intro h1 h2
        by_cases e1:f x y=0 <;> by_cases e2:f y z=0
        ·rw [if_pos e1] at h1;rw [if_pos e2] at h2
         have h3:=h.tr x y z (by omega) (by omega)
         have h4:=h.tr z y x (by rw [h.z e2];omega) (by rw [h.z e1];omega)
         have h5:=h.anti x z;have h6:=h.anti z x
         rw [if_pos (by omega)];exact ih s t h1 h2
        ·rw [if_neg e2] at h2
         have:=h.lt' (a:=x) (b:=y) (c:=z) (by omega) (by omega)
         rw [if_neg (by omega)];omega
        ·rw [if_neg e1] at h1
         have:=h.lt (a:=x) (b:=y) (c:=z) (by omega) (by omega)
         rw [if_neg (by omega)];omega
        ·rw [if_neg e1] at h1;rw [if_neg e2] at h2
         have:=h.lt (a:=x) (b:=y) (c:=z) (by omega) (by omega)
         rw [if_neg (by omega)];omega
theorem PO.congr {α:Type} {f g:α→α→Int} (h:PO f) (e:∀ a b,g a b=f a b):PO g:=⟨fun a b=>by rw [e,e];exact h.anti a b,fun a b c=>by rw [e,e,e];exact h.tr a b c⟩
theorem PO.seg:PO cmpSeg:=by
 refine (PO.lex (PO.key Seg.kind PO.cmpI) (PO.lex (PO.key (fun s:Seg=>(s.ls.length:Int)) PO.cmpI) (PO.lex (PO.key Seg.ls PO.cmpI.list) PO.zero))).congr fun a b => ?_
 simp only [cmpSeg,orL];rfl
theorem PO.path:PO cmpPath:=PO.seg.list
theorem PO.at:PO cmpAs:=by
 refine (PO.lex (PO.key At.org PO.cmpI) (PO.lex (PO.key At.path PO.path) (PO.lex (PO.key At.nxt PO.cmpI) (PO.lex (PO.key At.hm PO.truth) (PO.lex (PO.key At.med PO.cmpI) (PO.lex (PO.key At.hp PO.truth) (PO.lex (PO.key At.prf PO.cmpI) (PO.lex (PO.key At.atm PO.truth) (PO.lex (PO.key At.cms PO.cmpI.list) PO.zero))))))))).congr fun a b => ?_
 simp only [cmpAs,orL];rfl
end Go.Am
namespace Go.Am
theorem y6 (s:Store) (i:Nat):Store.sub (s.del i) s:=fun j o hj=>by
 by_cases e:j=i
 ·subst e;simp at hj
 ·rw [Store.del_ne _ e] at hj;exact hj
end Go.Am
namespace Go.Am
open Go.Proofs Go.Sort
def zCells:List AV:=[.int .i64 0,.nils,.int .u32 0,.bool false,.int .u32 0,.bool false,.int .u32 0,.bool false,.nils]
def zeroAt:At:=⟨0,[],0,false,0,false,0,false,[]⟩
end Go.Am
namespace Go.Am
def b4 (n:Int):List Int:=[n / 16777216 % 256,n / 65536 % 256,n / 256 % 256,n % 256]
def n4 (a b c d:Int):Int:=((a*256+b)*256+c)*256+d
def U8s (l:List Int):Prop:=∀ x ∈ l,0≤x∧x<256
theorem z1p (n:Int):U8s (b4 n):=by
 intro x hx
 simp only [b4,List.mem_cons,List.not_mem_nil,or_false] at hx
 omega
theorem U8s.append {l m:List Int} (h:U8s l) (h':U8s m):U8s (l++m):=fun x hx=>(List.mem_append.1 hx).elim (h x) (h' x)
theorem U8s.take {l:List Int} (h:U8s l) (n:Nat):U8s (l.take n):=fun x hx=>h x (List.mem_of_mem_take hx)
theorem U8s.drop {l:List Int} (h:U8s l) (n:Nat):U8s (l.drop n):=fun x hx=>h x (List.mem_of_mem_drop hx)
def words:Nat→List Int→List Int
 | n+1,a::b::c::d::r=>n4 a b c d::words n r
 | _,_=>[]
theorem xi:∀ (n:Nat) (l:List Int),4*n≤l.length→(words n l).length=n
 | 0,l,_=>by cases l <;> simp [words]
 | n+1,[],h=>by simp at h
 | n+1,[_],h=>by simp at h;omega
 | n+1,[_,_],h=>by simp at h;omega
 | n+1,[_,_,_],h=>by simp at h;omega
 | n+1,a::b::c::d::r,h=>by simp only [words,List.length_cons];rw [xi n r (by simp at h;omega)]
def encW (l:List Int):List Int:=l.flatMap b4
theorem yk (l:List Int):(encW l).length=4*l.length:=by
 induction l with
 | nil=>rfl
 | cons x r ih=>simp only [encW,List.flatMap_cons,List.length_append] at *;rw [ih];simp [b4];omega
def encSeg (s:Seg):List Int:=[s.kind % 256,(s.ls.length:Int) % 256]++encW s.ls
def encPath (l:List Seg):List Int:=l.flatMap encSeg
def segRight (s:Seg):Prop:=(s.kind=1∨s.kind=2)∧1≤s.ls.length∧s.ls.length≤255
instance (s:Seg):Decidable (segRight s):=inferInstanceAs (Decidable (_∧_∧_))
def pathRight (l:List Seg):Prop:=(∀ s ∈ l,segRight s)∧l.length≤16
instance (l:List Seg):Decidable (pathRight l):=inferInstanceAs (Decidable (_∧_))
def segs:Nat→List Int→Option (List Seg)
 | 0,b=>if b=[] then some [] else none
 | _+1,[]=>some []
 | _+1,[_]=>none
 | f+1,k::n::r=>if (r.length:Int)<4*n then none else (segs f (r.drop (4*n.toNat))).map (⟨k,words n.toNat r⟩ :: ·)
def decPath (b:List Int):Option (List Seg):=match segs b.length b with
 | some l=>if pathRight l then some l else none
 | none=>none
theorem z1e:∀ (f g:Nat) (b:List Int),b.length≤f→b.length≤g→segs f b=segs g b
 | 0,0,_,_,_=>rfl
 | 0,g+1,[],_,_=>by simp [segs]
 | 0,g+1,_::_,h,_=>by simp at h
 | f+1,0,[],_,_=>by simp [segs]
 | f+1,0,_::_,_,h=>by simp at h
 | f+1,g+1,[],_,_=>by simp [segs]
 | f+1,g+1,[_],_,_=>by simp [segs]
 | f+1,g+1,k::n::r,h1,h2=>by
   simp only [segs]
   split
   ·rfl
   ·rw [z1e f g _ (by simp at h1 ⊢;omega) (by simp at h2 ⊢;omega)]
def oneA (fl kind:Int) (v:List Int):List Int :=
 (if 255<v.length then [fl+16,kind,(v.length:Int) / 256 % 256,(v.length:Int) % 256] else [fl,kind,(v.length:Int)])++v
def encA (a:At):List Int :=
 oneA 64 1 [a.org % 256]++oneA 64 2 (encPath a.path)++oneA 64 3 (b4 a.nxt)++(if a.hm then oneA 128 4 (b4 a.med) else [])++(if a.hp then oneA 64 5 (b4 a.prf) else []) ++
  (if a.atm then oneA 64 6 [] else [])++(if a.cms=[] then [] else oneA 192 8 (encW a.cms))
def goodN (n:Int):Prop:=n / 16777216≠0∧n / 16777216≠127∧n / 16777216<224
instance (n:Int):Decidable (goodN n):=inferInstanceAs (Decidable (_∧_∧_))
def atRight (a:At):Prop:=(0≤a.org∧a.org≤2)∧pathRight a.path∧goodN a.nxt∧(a.hm=false→a.med=0)∧(a.hp=false→a.prf=0)∧a.cms.length≤32∧Inc a.cms
structure Ch where
 fl:Int
 kind:Int
 val:List Int
 all:List Int
 rest:List Int
def andI (a b:Int):Int:=bitInt .and .i64 a b
def chunk:List Int→Option Ch
 | f::k::h::r =>
   if andI f 16=0 then (if (r.length:Int)<h then none else some ⟨f,k,r.take h.toNat,(f::k::h::r).take (3+h.toNat),r.drop h.toNat⟩)
   else match r with
    | l::r'=>if (r'.length:Int)<h*256+l then none else some ⟨f,k,r'.take (h*256+l).toNat,(f::k::h::r).take (4+(h*256+l).toNat),r'.drop (h*256+l).toNat⟩
    | []=>none
 | _=>none
def wantOf (k:Int):Int:=if k=1∨k=2∨k=3∨k=5∨k=6 then 64 else if k=4 then 128 else if k=8 then 192 else 0
def fitsOf (k:Int) (n:Nat):Prop:=(k=1→n=1)∧(k=3∨k=4∨k=5→n=4)∧(k=6→n=0)∧(k=8→n % 4=0)
instance (k:Int) (n:Nat):Decidable (fitsOf k n):=inferInstanceAs (Decidable (_∧_∧_∧_))
abbrev Nt:=Int×List Int
def valA (c:Ch) (a:At):Except Nt At :=
 if c.kind=1 then (if 2<c.val.headD 0 then .error (6,c.all) else .ok { a with org:=c.val.headD 0 })
 else if c.kind=2 then (match decPath c.val with | some l => .ok { a with path:=l } | none => .error (11,[]))
 else if c.kind=3 then (if goodN ((words 1 c.val).headD 0) then .ok { a with nxt:=(words 1 c.val).headD 0 } else .error (8,c.all))
 else if c.kind=4 then .ok { a with hm:=true,med:=(words 1 c.val).headD 0 }
 else if c.kind=5 then .ok { a with hp:=true,prf:=(words 1 c.val).headD 0 }
 else if c.kind=6 then .ok { a with atm:=true }
 else (if 32<c.val.length / 4 then .error (9,c.all) else .ok { a with cms:=words (c.val.length / 4) c.val })
def stepA (c:Ch) (a:At):Except Nt At :=
 if wantOf c.kind=0 then (if andI c.fl 128=0 then .error (2,c.all) else .ok a)
 else if andI c.fl 192≠wantOf c.kind∨andI c.fl 32≠0∧c.kind≠8 then .error (4,c.all)
 else if ¬ fitsOf c.kind c.val.length then .error (5,c.all)
 else valA c a
def decL (inner:Bool):Nat→List Int→At→List Int→List Int→Except Nt (At×List Int)
 | _,[],a,_,ty => .ok (a,ty)
 | 0,_::_,_,_,_ => .error (1,[])
 | f+1,x::r,a,seen,ty=>match chunk (x::r) with
   | none => .error (1,[])
   | some c=>if c.kind ∈ seen then .error (1,[])
     else if c.kind=5∧inner=false then decL inner f c.rest a (c.kind::seen) ty
     else match stepA c a with
      | .error n => .error n
      | .ok a'=>decL inner f c.rest a' (c.kind::seen) (ty++[c.kind])
theorem xy {b:List Int} {c:Ch} (h:chunk b=some c):c.rest.length<b.length:=by
 unfold chunk at h
 split at h
 ·split at h
  ·split at h
   ·cases h
   ·cases h;simp;omega
  ·split at h
   ·split at h
    ·cases h
    ·cases h;simp;omega
   ·cases h
 ·cases h
theorem v8 (inner:Bool):∀ (f g:Nat) (b:List Int) (a:At) (seen ty:List Int),b.length≤f→b.length≤g→decL inner f b a seen ty=decL inner g b a seen ty
 | 0,0,_,_,_,_,_,_=>rfl
 | 0,g+1,[],_,_,_,_,_=>by simp [decL]
 | 0,g+1,_::_,_,_,_,h,_=>by simp at h
 | f+1,0,[],_,_,_,_,_=>by simp [decL]
 | f+1,0,_::_,_,_,_,_,h=>by simp at h
 | f+1,g+1,[],_,_,_,_,_=>by simp [decL]
 | f+1,g+1,x::r,a,seen,ty,h1,h2=>by
   simp only [decL]
   cases hc:chunk (x::r) with
   | none=>rfl
   | some c =>
     have hl:=xy hc
     simp only
     split
     ·rfl
     ·split
      ·exact v8 inner f g _ _ _ _ (by simp at h1 hl;omega) (by simp at h2 hl;omega)
      ·split
       ·rfl
       ·exact v8 inner f g _ _ _ _ (by simp at h1 hl;omega) (by simp at h2 hl;omega)
def decA (inner:Bool) (b:List Int):Except Nt (At×List Int):=match decL inner b.length b zeroAt [] [] with
 | .error n => .error n
 | .ok (a,ty) => .ok (canonA a,ty.mergeSort leI)
end Go.Am
namespace Go.Am
open Go.Proofs Go.Sort
def cB (n:Int):List AV:=[.int .u8 n]
def WI (τ:Store) (id:Nat) (L:List Int) (s:Store):Prop:=τ id=none∧Store.sub τ s∧∃ v,s id=some (.box [v])∧Own 1 τ (L.map cB) v s
theorem WI.mono {τ s s':Store} {id:Nat} {L:List Int} (h:WI τ id L s) (hs:Store.sub s s'):WI τ id L s':=by
 obtain ⟨h1,h2,v,h3,h4⟩:=h
 exact ⟨h1,Store.sub_trans h2 hs,v,hs _ _ h3,h4.mono hs⟩
theorem s62 (σ:Store):ACalls Tryz.prog 62 [] σ (fun r s=>∃ id,r = .ptr id 0∧WI σ id [] s):=by
 refine zg Tst.F62 (by simp [Tst.F62,Fn.mkX]) ?_
 simp only [Tst.F62,Fn.mkX,Tst.b62]
 simp only [↓vcPre,↓z0,↓reduceIte,vcPost,vcStd,Nat.reduceEqDiff,reduceCtorEq,Nat.reduceAdd,Nat.reduceLeDiff,Int.reduceLT,Int.reduceLE,↓u_setN]
 refine AllocQ.i0 fun id hid => ?_
 simp only [↓vcPre,↓z0,↓reduceIte,vcPost,vcStd,Nat.reduceEqDiff,reduceCtorEq,Nat.reduceAdd,Nat.reduceLeDiff,Int.reduceLT,Int.reduceLE,↓u_setN]
 exact EndQ.to _ _ rfl (Store.sub_refl _) ⟨id,rfl,hid,Store.sub_set _ _ _ hid,.nils,Store.set_same _ _ _,.nil⟩
theorem WI.app1 {τ s:Store} {id b:Nat} {L:List Int} {x:Int} {v:AV} {K:AV→Store→Prop} (h1:τ id=none) (h2:Store.sub τ s) (h3:s id=some (.box [v])) (h4:Own 1 τ (L.map cB) v s) (hL:L.length≤100000000) (hb:s b=none)
 (h:∀ v' s',s' id=some (.box [v])→Own 1 τ ((L++[x]).map cB) v' s'→Store.sub τ s'→K v' s'):appwp 1 1 v (.os b 1 0 1) (s.set b (.arr 1 [cB x])) K:=by
 have hbi:¬ id=b:=fun e=>by subst e;rw [h3] at hb;cases hb
 have hsb:=Store.sub_set s b (.arr 1 [cB x]) hb
 obtain ⟨τ0,q1,q2,q3,q4⟩:∃ τ0,Store.sub τ τ0∧Store.sub τ0 s∧τ0 id=some (.box [v])∧Own 1 τ0 (L.map cB) v s:=by
  rcases h4 with ⟨hk,hv⟩ | ⟨g,hv,hg,hs⟩
  ·exact ⟨s,h2,Store.sub_refl _,h3,.inl ⟨hk,hv⟩⟩
  ·have hgi:¬ id=g:=fun e=>by subst e;rw [hs] at h3;cases h3
   exact ⟨s.del g,sub_del h2 hg,y6 _ _,by rw [Store.del_ne _ hgi];exact h3,.inr ⟨g,hv,by simp,hs⟩⟩
 refine Own.app (τ:=τ0) (Store.sub_trans q2 hsb) (q4.mono hsb) (zm (Store.set_same _ _ _) rfl) (by simp;omega) fun v' s' hs' ho' => ?_
 refine h v' s' (hs' _ _ q3) ?_ (Store.sub_trans q1 hs')
 rw [List.map_append];exact ho'.weak q1
theorem Own.setId {esz:Nat} {τ s:Store} {L:List (List AV)} {v:AV} {id:Nat} {o o':Obj} (h:Own esz τ L v s) (hid:s id=some o) (ho:∀ M,o ≠ .arr esz M):Own esz τ L v (s.set id o'):=by
 rcases h with h | ⟨g,h1,h2,h3⟩
 ·exact .inl h
 ·have hgi:¬ g=id:=fun e=>by rw [e,hid] at h3;cases h3;exact ho _ rfl
  exact .inr ⟨g,h1,h2,by rw [Store.set_ne _ _ hgi];exact h3⟩
theorem Own.cell {esz:Nat} {τ s:Store} {L:List (List AV)} {v:AV} (h:Own esz τ L v s):v.isTup=false∧v.cells=[v]:=by
 rcases h with ⟨_,rfl⟩ | ⟨g,rfl,_⟩ <;> exact ⟨rfl,rfl⟩
def beN:Nat→Int→List Int
 | 0,_=>[]
 | k+1,n=>IntKind.u8.wrap (shrInt .u64 n (8*(k:Int)))::beN k n
theorem z73 {τ s:Store} {id:Nat} {L:List Int} (h:WI τ id L s) (hL:L.length≤10000000) (n:Int) (k:Nat) (hk:k≤8):ACalls Tryz.prog 131 [.ptr id 0,.int .u64 n,.int .i64 (k:Int)] s (fun r s'=>r = .tup []∧WI τ id (L++beN k n) s'):=by
 refine zg Tst.F131 (by simp [Tst.F131,Fn.mkX]) ?_
 simp only [Tst.F131,Fn.mkX,Tst.b131]
 simp only [↓vcPre,↓z0,↓reduceIte,vcPost,vcStd,Nat.reduceEqDiff,reduceCtorEq,Nat.reduceAdd,Nat.reduceLeDiff,Int.reduceLT,Int.reduceLE,↓u_setN]
 have em:IntKind.i64.wrap ((k:Int) - 1)=(k:Int) - 1:=zd (by unfold I64;omega)
 rw [em]
 refine LoopQ.inv (S:=Nat×List Int×Store) (fun q=>[(0,.ptr id 0),(1,.int .u64 n),(6,.int .i64 ((q.1:Int) - 1))]) (fun q=>q.2.2) (fun q=>q.1≤k∧q.2.1.length+q.1≤10000008∧q.2.1++beN q.1 n=L++beN k n∧WI τ id q.2.1 q.2.2) (fun q=>q.1) (k,L,s) rfl (Store.sub_refl _) ⟨Nat.le_refl _,by simp only;omega,rfl,h⟩ ?_
 rintro ⟨j,M,s⟩ ⟨hj,hM,hE,hW⟩
 simp only at hj hM hE hW
 obtain ⟨h1,h2,v,h3,h4⟩:=hW
 simp only [↓vcPre,↓z0,↓reduceIte,vcPost,vcStd,Nat.reduceEqDiff,reduceCtorEq,Nat.reduceAdd,Nat.reduceLeDiff,Int.reduceLT,Int.reduceLE,↓u_setN]
 refine ⟨fun c1 => ?_,fun c1 => ?_⟩
 ·obtain ⟨m,rfl⟩:∃ m,j=m+1:=⟨j - 1,by omega⟩
  have e1:((m+1:Nat):Int) - 1=m:=by omega
  have e2:IntKind.i64.wrap ((m:Int) - 1)=(m:Int) - 1:=zd (by unfold I64;omega)
  have e3:IntKind.i64.wrap (8*(m:Int))=8*(m:Int):=zd (by unfold I64;omega)
  rw [e1,e3]
  simp only [h3,↓vcPre,↓z0,↓reduceIte,vcPost,vcStd,Nat.reduceEqDiff,reduceCtorEq,Nat.reduceAdd,Nat.reduceLeDiff,Int.reduceLT,Int.reduceLE,↓u_setN]
  refine ⟨by omega,AllocQ.i0 fun b hb => ?_⟩
  simp only [↓vcPre,↓z0,↓reduceIte,vcPost,vcStd,Nat.reduceEqDiff,reduceCtorEq,Nat.reduceAdd,Nat.reduceLeDiff,Int.reduceLT,Int.reduceLE,↓u_setN]
  refine WI.app1 h1 h2 h3 h4 (by omega) hb fun v' s' g1 g2 g3 => ?_
  have hv:=g2.cell
  simp only [g1,hv.1,hv.2,↓vcPre,↓z0,↓reduceIte,vcPost,vcStd,Nat.reduceEqDiff,reduceCtorEq,Nat.reduceAdd,Nat.reduceLeDiff,Int.reduceLT,Int.reduceLE,↓u_setN]
  refine NextQ.to (m,M++[IntKind.u8.wrap (shrInt .u64 n (8*(m:Int)))],s'.set id (.box [v'])) (by rw [e2]) (Store.sub_refl _) (by simp only;omega) ⟨by simp only;omega,by simp;omega,?_,h1,za g3 h1,v',Store.set_same _ _ _,g2.setId g1 (fun M h=>by cases h)⟩
  simp only [beN] at hE
  simp only [List.append_assoc,List.cons_append,List.nil_append]
  exact hE
 ·have hj0:j=0:=by omega
  subst hj0
  simp only [beN,List.append_nil] at hE
  exact EndQ.to _ _ rfl (Store.sub_refl _) ⟨rfl,by rw [←hE];exact ⟨h1,h2,v,h3,h4⟩⟩
theorem qy {τ s:Store} {id:Nat} {L:List Int} (h:WI τ id L s) (hL:L.length≤10000000) (n:Int):ACalls Tryz.prog 101 [.ptr id 0,.int .i64 n] s (fun r s'=>r = .tup []∧WI τ id (L++beN 1 (IntKind.u64.wrap n)) s'):=by
 refine zg Tst.F101 (by simp [Tst.F101,Fn.mkX]) ?_
 simp only [Tst.F101,Fn.mkX,Tst.b101]
 simp only [↓vcPre,↓z0,↓reduceIte,vcPost,vcStd,Nat.reduceEqDiff,reduceCtorEq,Nat.reduceAdd,Nat.reduceLeDiff,Int.reduceLT,Int.reduceLE,↓u_setN]
 refine (z73 h hL _ 1 (by omega)).Q ?_
 rintro r s' ⟨rfl,h'⟩
 simp only [↓vcPre,↓z0,↓reduceIte,vcPost,vcStd,Nat.reduceEqDiff,reduceCtorEq,Nat.reduceAdd,Nat.reduceLeDiff,Int.reduceLT,Int.reduceLE,↓u_setN]
 exact EndQ.to _ _ rfl (Store.sub_refl _) ⟨rfl,h'⟩
theorem zes {τ s:Store} {id:Nat} {L:List Int} (h:WI τ id L s) (hL:L.length≤10000000) (n:Int):ACalls Tryz.prog 102 [.ptr id 0,.int .i64 n] s (fun r s'=>r = .tup []∧WI τ id (L++beN 2 (IntKind.u64.wrap n)) s'):=by
 refine zg Tst.F102 (by simp [Tst.F102,Fn.mkX]) ?_
 simp only [Tst.F102,Fn.mkX,Tst.b102]
 simp only [↓vcPre,↓z0,↓reduceIte,vcPost,vcStd,Nat.reduceEqDiff,reduceCtorEq,Nat.reduceAdd,Nat.reduceLeDiff,Int.reduceLT,Int.reduceLE,↓u_setN]
 refine (z73 h hL _ 2 (by omega)).Q ?_
 rintro r s' ⟨rfl,h'⟩
 simp only [↓vcPre,↓z0,↓reduceIte,vcPost,vcStd,Nat.reduceEqDiff,reduceCtorEq,Nat.reduceAdd,Nat.reduceLeDiff,Int.reduceLT,Int.reduceLE,↓u_setN]
 exact EndQ.to _ _ rfl (Store.sub_refl _) ⟨rfl,h'⟩
theorem zaq {τ s:Store} {id:Nat} {L:List Int} (h:WI τ id L s) (hL:L.length≤10000000) (n:Int):ACalls Tryz.prog 104 [.ptr id 0,.int .u32 n] s (fun r s'=>r = .tup []∧WI τ id (L++beN 4 (IntKind.u64.wrap n)) s'):=by
 refine zg Tst.F104 (by simp [Tst.F104,Fn.mkX]) ?_
 simp only [Tst.F104,Fn.mkX,Tst.b104]
 simp only [↓vcPre,↓z0,↓reduceIte,vcPost,vcStd,Nat.reduceEqDiff,reduceCtorEq,Nat.reduceAdd,Nat.reduceLeDiff,Int.reduceLT,Int.reduceLE,↓u_setN]
 refine (z73 h hL _ 4 (by omega)).Q ?_
 rintro r s' ⟨rfl,h'⟩
 simp only [↓vcPre,↓z0,↓reduceIte,vcPost,vcStd,Nat.reduceEqDiff,reduceCtorEq,Nat.reduceAdd,Nat.reduceLeDiff,Int.reduceLT,Int.reduceLE,↓u_setN]
 exact EndQ.to _ _ rfl (Store.sub_refl _) ⟨rfl,h'⟩
theorem u8w (n:Int):IntKind.u8.wrap n=n % 256:=by simp [IntKind.wrap,IntKind.bits,IntKind.signed]
theorem z0y (n:Int):IntKind.u64.wrap n=n % 18446744073709551616:=by simp [IntKind.wrap,IntKind.bits,IntKind.signed]
theorem z4p (n:Int):IntKind.u32.wrap n=n % 4294967296:=by simp [IntKind.wrap,IntKind.bits,IntKind.signed]
theorem be1 (n:Int):beN 1 (IntKind.u64.wrap n)=[n % 256]:=by
 simp [beN,u8w,z0y,shrInt,IntKind.bits]
theorem be2 (n:Int):beN 2 (IntKind.u64.wrap n)=[n / 256 % 256,n % 256]:=by
 have e1:∀ x:Int,x.fdiv 256=x / 256:=fun x=>Int.fdiv_eq_ediv_of_nonneg _ (by omega)
 simp [beN,u8w,z0y,shrInt,IntKind.bits,e1];omega
theorem be4 (n:Int):beN 4 (IntKind.u64.wrap n)=b4 n:=by
 have e1:∀ x:Int,x.fdiv 256=x / 256:=fun x=>Int.fdiv_eq_ediv_of_nonneg _ (by omega)
 have e2:∀ x:Int,x.fdiv 65536=x / 65536:=fun x=>Int.fdiv_eq_ediv_of_nonneg _ (by omega)
 have e3:∀ x:Int,x.fdiv 16777216=x / 16777216:=fun x=>Int.fdiv_eq_ediv_of_nonneg _ (by omega)
 simp [beN,u8w,z0y,shrInt,IntKind.bits,b4,e1,e2,e3];omega
def Rd (esz:Nat) (τ:Store) (L:List (List AV)) (v:AV):Prop:=(∀ t,Store.sub τ t→slc t esz v=some L)∧pv .len [v]=some (.int .i64 L.length)
theorem Rd.mono {esz:Nat} {τ τ':Store} {L:List (List AV)} {v:AV} (h:Rd esz τ L v) (hs:Store.sub τ τ'):Rd esz τ' L v:=⟨fun t ht=>h.1 t (Store.sub_trans hs ht),h.2⟩
theorem Rd.sl {esz:Nat} {τ:Store} {L:List (List AV)}:Rd esz τ L (.sl esz L):=⟨fun _ _=>vw,by simp [pv,pLen]⟩
theorem Rd.nils {esz:Nat} {τ:Store}:Rd esz τ [] .nils:=⟨fun _ _=>rfl,rfl⟩
theorem Rd.os {esz g:Nat} {τ:Store} {L:List (List AV)} (h:τ g=some (.arr esz L)):Rd esz τ L (.os g esz 0 L.length):=⟨fun t ht=>zm (ht _ _ h) rfl,by simp [pv,pLen]⟩
theorem Rd.own {esz:Nat} {τ s:Store} {L:List (List AV)} {v:AV} (h:Own esz τ L v s):Rd esz s L v:=by
 rcases h with ⟨rfl,rfl⟩ | ⟨g,rfl,_,h⟩
 ·exact Rd.nils
 ·exact Rd.os h
theorem Own.appM {esz bytes:Nat} {τ s:Store} {L ys:List (List AV)} {v wv:AV} {K:AV→Store→Prop} (hsub:Store.sub τ s) (ho:Own esz τ L v s) (hw:slc s esz wv=some ys) (hsz:(L.length+ys.length)*bytes≤140737488355328)
 (h:∀ v' s',Store.sub τ s'→Own esz τ (L++ys) v' s'→K v' s'):appwp esz bytes v wv s K:=by
 rcases ho with ⟨rfl,rfl⟩ | ⟨g,rfl,hg,hs⟩
 ·refine z39 hw (by simpa using hsz) (fun h0 => ?_) (fun _ j hj => ?_)
  ·exact h _ _ hsub (.inl ⟨by simpa using h0,rfl⟩)
  ·exact h _ _ (za hsub (zk hsub hj)) (.inr ⟨j,rfl,zk hsub hj,Store.set_same _ _ _⟩)
 ·refine x9 (zm hs rfl) hw hsz fun j hj => ?_
  have hτ:τ j=none:=zk hsub hj
  refine h _ _ (fun x q hx => ?_) (.inr ⟨j,by simp,hτ,by rw [Store.set_same]⟩)
  have hxj:x≠j:=fun e=>by subst e;rw [hτ] at hx;cases hx
  have hxg:x≠g:=fun e=>by subst e;rw [hg] at hx;cases hx
  rw [Store.set_ne _ _ hxj,Store.del_ne _ hxg];exact hsub x q hx
theorem WI.appM {τ s:Store} {id:Nat} {L:List Int} {ys:List (List AV)} {v wv:AV} {K:AV→Store→Prop} (h1:τ id=none) (h2:Store.sub τ s) (h3:s id=some (.box [v])) (h4:Own 1 τ (L.map cB) v s) (hw:slc s 1 wv=some ys) (hsz:L.length+ys.length≤100000000)
 (h:∀ v' s',s' id=some (.box [v])→Own 1 τ (L.map cB++ys) v' s'→Store.sub τ s'→K v' s'):appwp 1 1 v wv s K:=by
 obtain ⟨τ0,q1,q2,q3,q4⟩:∃ τ0,Store.sub τ τ0∧Store.sub τ0 s∧τ0 id=some (.box [v])∧Own 1 τ0 (L.map cB) v s:=by
  rcases h4 with ⟨hk,hv⟩ | ⟨g,hv,hg,hs⟩
  ·exact ⟨s,h2,Store.sub_refl _,h3,.inl ⟨hk,hv⟩⟩
  ·have hgi:¬ id=g:=fun e=>by subst e;rw [hs] at h3;cases h3
   exact ⟨s.del g,sub_del h2 hg,y6 _ _,by rw [Store.del_ne _ hgi];exact h3,.inr ⟨g,hv,by simp,hs⟩⟩
 refine Own.appM (τ:=τ0) q2 q4 hw (by simp;omega) fun v' s' hs' ho' => ?_
 exact h v' s' (hs' _ _ q3) (ho'.weak q1) (Store.sub_trans q1 hs')
theorem zap {τ s:Store} {id:Nat} {L M:List Int} {wv:AV} (h:WI τ id L s) (hw:Rd 1 τ (M.map cB) wv) (hL:L.length≤10000000) (hM:M.length≤10000000):ACalls Tryz.prog 103 [.ptr id 0,wv] s (fun r s'=>r = .tup []∧WI τ id (L++M) s'):=by
 refine zg Tst.F103 (by simp [Tst.F103,Fn.mkX]) ?_
 simp only [Tst.F103,Fn.mkX,Tst.b103]
 obtain ⟨h1,h2,v,h3,h4⟩:=h
 simp only [h3,↓vcPre,↓z0,↓reduceIte,vcPost,vcStd,Nat.reduceEqDiff,reduceCtorEq,Nat.reduceAdd,Nat.reduceLeDiff,Int.reduceLT,Int.reduceLE,↓u_setN]
 refine WI.appM h1 h2 h3 h4 (hw.1 _ h2) (by simp;omega) fun v' s' g1 g2 g3 => ?_
 have hv:=g2.cell
 simp only [g1,hv.1,hv.2,↓vcPre,↓z0,↓reduceIte,vcPost,vcStd,Nat.reduceEqDiff,reduceCtorEq,Nat.reduceAdd,Nat.reduceLeDiff,Int.reduceLT,Int.reduceLE,↓u_setN]
 refine EndQ.to _ _ rfl (Store.sub_refl _) ⟨rfl,h1,za g3 h1,v',Store.set_same _ _ _,?_⟩
 rw [List.map_append]
 exact g2.setId g1 (fun M h=>by cases h)
theorem Rd.cases {esz:Nat} {σ:Store} {L:List (List AV)} {v:AV} (h:Rd esz σ L v):(v = .nils∧L=[])∨v = .sl esz L∨∃ g o n,v = .os g esz o n:=by
 have h1:=h.1 σ (Store.sub_refl _)
 unfold slc at h1
 split at h1
 ·exact .inl ⟨rfl,by cases h1;rfl⟩
 ·split at h1
  ·rename_i e;subst e;cases h1;exact .inr (.inl rfl)
  ·cases h1
 ·split at h1
  ·split at h1
   ·rename_i e;obtain ⟨rfl,_,_⟩:=e;exact .inr (.inr ⟨_,_,_,rfl⟩)
   ·cases h1
  ·cases h1
 ·cases h1
theorem Rd.at {esz:Nat} {τ:Store} {L:List (List AV)} {v:AV} (h:Rd esz τ L v) {k:Nat} (hk:k<L.length):∃ p,pv (.idx esz) [v,.int .i64 (k:Int)]=some p∧∀ t,Store.sub τ t→∀ n,rd t n p=takeN 0 n L[k]:=by
 rcases h.cases with ⟨rfl,h0⟩ | rfl | ⟨g,o,n,rfl⟩
 ·subst h0;simp at hk
 ·refine ⟨.ep L[k],by simp [pv,pIdx,hk],fun t _ n=>rfl⟩
 ·have hl:=h.2
  simp only [pv,pLen,Option.some.injEq,AV.int.injEq,true_and] at hl
  refine ⟨.aptr g esz (o+k) 0,by simp [pv,pIdx];omega,fun t ht m => ?_⟩
  have h1:=h.1 t ht
  unfold slc at h1
  simp only at h1
  split at h1
  ·rename_i e2 es hg
   split at h1
   ·rename_i e;obtain ⟨_,rfl,hle⟩:=e
    have h2:=Option.some.inj h1
    have h3:es[o+k]? = some L[k]:=by
     have h4:((es.drop o).take n)[k]? = some L[k]:=by rw [h2];exact List.getElem?_eq_getElem hk
     rw [List.getElem?_take_of_lt (by omega),List.getElem?_drop] at h4
     exact h4
    simp only [rd,hg,if_true,h3,Option.bind_some]
   ·cases h1
  ·cases h1
theorem s93 {σ:Store} {M:List Int} {v:AV} (hr:Rd 1 σ (M.map cB) v) (hM:M.length≤1000000000):ACalls Tryz.prog 93 [v] σ (fun r s=>s=σ∧r = .sl 1 (M.map cB)):=by
 refine zg Tst.F93 (by simp [Tst.F93,Fn.mkX]) ?_
 simp only [Tst.F93,Fn.mkX,Tst.b93]
 have hcp:∀ i,σ i=none→slc (σ.set i (.arr 1 [])) 1 v=some (M.map cB):=fun i hi=>hr.1 _ (Store.sub_set _ _ _ hi)
 rcases hr.cases with ⟨rfl,h0⟩ | rfl | ⟨g,o,n,rfl⟩
 ·simp only [↓vcPre,↓z0,↓reduceIte,vcPost,vcStd,Nat.reduceEqDiff,reduceCtorEq,Nat.reduceAdd,Nat.reduceLeDiff,Int.reduceLT,Int.reduceLE,↓u_setN]
  exact EndQ.nil1 1 σ rfl (Store.sub_refl _) ⟨rfl,by rw [h0]⟩
 ·simp only [↓vcPre,↓z0,↓reduceIte,vcPost,vcStd,Nat.reduceEqDiff,reduceCtorEq,Nat.reduceAdd,Nat.reduceLeDiff,Int.reduceLT,Int.reduceLE,↓u_setN]
  show nilqwp false (.sl 1 (M.map cB)) _
  refine z60 fun b hb => ?_
  cases b with
  | true =>
    have hl:M=[]:=by
     cases M with
     | nil=>rfl
     | cons x r=>have:=hb (by simp);cases this
    subst hl
    simp only [↓vcPre,↓z0,↓reduceIte,vcPost,vcStd,Nat.reduceEqDiff,reduceCtorEq,Nat.reduceAdd,Nat.reduceLeDiff,Int.reduceLT,Int.reduceLE,↓u_setN]
    exact EndQ.nil1 1 σ rfl (Store.sub_refl _) ⟨rfl,rfl⟩
  | false =>
    simp only [↓vcPre,↓z0,↓reduceIte,vcPost,vcStd,Nat.reduceEqDiff,reduceCtorEq,Nat.reduceAdd,Nat.reduceLeDiff,Int.reduceLT,Int.reduceLE,↓u_setN]
    refine AllocQ.i0 fun i hi => ?_
    simp only [↓vcPre,↓z0,↓reduceIte,vcPost,vcStd,Nat.reduceEqDiff,reduceCtorEq,Nat.reduceAdd,Nat.reduceLeDiff,Int.reduceLT,Int.reduceLE,↓u_setN]
    refine x9 (zm (Store.set_same _ _ _) rfl) (hcp i hi) (by simp;omega) fun j hj => ?_
    simp only [List.nil_append,List.length_nil,Nat.zero_add]
    refine EndQ.frz j 1 0 _ (M.map cB) σ rfl (Store.set_same _ _ _) (by simp) (vq hi hj) ⟨rfl,?_⟩
    rw [List.drop_zero,List.take_of_length_le (by simp)]
 ·simp only [↓vcPre,↓z0,↓reduceIte,vcPost,vcStd,Nat.reduceEqDiff,reduceCtorEq,Nat.reduceAdd,Nat.reduceLeDiff,Int.reduceLT,Int.reduceLE,↓u_setN]
  refine AllocQ.i0 fun i hi => ?_
  simp only [↓vcPre,↓z0,↓reduceIte,vcPost,vcStd,Nat.reduceEqDiff,reduceCtorEq,Nat.reduceAdd,Nat.reduceLeDiff,Int.reduceLT,Int.reduceLE,↓u_setN]
  refine x9 (zm (Store.set_same _ _ _) rfl) (hcp i hi) (by simp;omega) fun j hj => ?_
  simp only [List.nil_append,List.length_nil,Nat.zero_add]
  refine EndQ.frz j 1 0 _ (M.map cB) σ rfl (Store.set_same _ _ _) (by simp) (vq hi hj) ⟨rfl,?_⟩
  rw [List.drop_zero,List.take_of_length_le (by simp)]
theorem s66 {τ s:Store} {id:Nat} {L:List Int} (h:WI τ id L s) (hL:L.length≤100000000):ACalls Tryz.prog 66 [.ptr id 0] s (fun r s'=>s'=s∧r = .sl 1 (L.map cB)):=by
 refine zg Tst.F66 (by simp [Tst.F66,Fn.mkX]) ?_
 simp only [Tst.F66,Fn.mkX,Tst.b66]
 obtain ⟨h1,h2,v,h3,h4⟩:=h
 simp only [h3,↓vcPre,↓z0,↓reduceIte,vcPost,vcStd,Nat.reduceEqDiff,reduceCtorEq,Nat.reduceAdd,Nat.reduceLeDiff,Int.reduceLT,Int.reduceLE,↓u_setN]
 refine (s93 (Rd.own h4) (by omega)).Q ?_
 rintro r s' ⟨rfl,rfl⟩
 simp only [↓vcPre,↓z0,↓reduceIte,vcPost,vcStd,Nat.reduceEqDiff,reduceCtorEq,Nat.reduceAdd,Nat.reduceLeDiff,Int.reduceLT,Int.reduceLE,↓u_setN]
 exact EndQ.to _ _ rfl (Store.sub_refl _) ⟨rfl,rfl⟩
end Go.Am
namespace Go.Am
open Go.Proofs Go.Sort
def ofSz (k:Int):Int:=if k=1 then 1 else if k=2 then -1 else if k=3∨k=4∨k=5 then 4 else if k=8 then -4 else 0
def ofOk (k:Int):Bool:=decide (wantOf k≠0)
theorem c69 (k:Int):Pur Tryz.prog 69 [.int .i64 k] (.tup [.int .i64 (wantOf k),.int .i64 (ofSz k),.bool (ofOk k)]):=by
 refine zp Tst.F69 (by simp [Tst.F69,Fn.mkX]) fun σ => ?_
 simp only [Tst.F69,Fn.mkX,Tst.b69]
 simp only [↓vcPre,↓z0,↓reduceIte,vcPost,vcStd,Nat.reduceEqDiff,reduceCtorEq,Nat.reduceAdd,Nat.reduceLeDiff,Int.reduceLT,Int.reduceLE,↓u_setN]
 refine ⟨fun h => ?_,fun h1=>⟨fun h => ?_,fun h2=>⟨fun h => ?_,fun h3=>⟨fun h => ?_,fun h4=>⟨fun h => ?_,fun h5=>⟨fun h => ?_,fun h6=>⟨fun h => ?_,fun h8 => ?_⟩⟩⟩⟩⟩⟩⟩
 all_goals first
  | (subst h;rfl)
  | (simp [ofSz,ofOk,wantOf,h1,h2,h3,h4,h5,h6,h8])
theorem s63 {τ s:Store} {id:Nat} {L M:List Int} {wv:AV} (h:WI τ id L s) (k:Int) (hk:0≤k∧k≤8∧wantOf k≠0) (hw:Rd 1 τ (M.map cB) wv) (hL:L.length≤1000000) (hM:M.length≤1000000) :
 ACalls Tryz.prog 63 [.ptr id 0,.int .i64 k,wv] s (fun r s'=>r = .tup []∧WI τ id (L++oneA (wantOf k) k M) s'):=by
 refine zg Tst.F63 (by simp [Tst.F63,Fn.mkX]) ?_
 simp only [Tst.F63,Fn.mkX,Tst.b63]
 have hlen:pv .len [wv]=some (.int .i64 (M.length:Int)):=by rw [hw.2];simp
 have hor:bitInt .or .i64 (wantOf k) 16=wantOf k+16∧wantOf k % 256=wantOf k∧(wantOf k+16) % 256=wantOf k+16:=by
  have:wantOf k=64∨wantOf k=128∨wantOf k=192:=by
   have:=hk.2.2
   unfold wantOf at this ⊢
   split
   ·exact .inl rfl
   ·rename_i h1
    rw [if_neg h1] at this
    split
    ·exact .inr (.inl rfl)
    ·rename_i h2
     rw [if_neg h2] at this
     split
     ·exact .inr (.inr rfl)
     ·rename_i h3;rw [if_neg h3] at this;exact absurd rfl this
  rcases this with h | h | h <;> rw [h] <;> decide
 have hk8:k % 256=k:=by omega
 simp only [↓vcPre,↓z0,↓reduceIte,vcPost,vcStd,Nat.reduceEqDiff,reduceCtorEq,Nat.reduceAdd,Nat.reduceLeDiff,Int.reduceLT,Int.reduceLE,↓u_setN]
 refine (c69 k).Q ?_
 simp only [hlen,↓vcPre,↓z0,↓reduceIte,vcPost,vcStd,Nat.reduceEqDiff,reduceCtorEq,Nat.reduceAdd,Nat.reduceLeDiff,Int.reduceLT,Int.reduceLE,↓u_setN]
 refine ⟨fun c1 => ?_,fun c1 => ?_⟩
 ·rw [hor.1]
  refine (qy h (by omega) _).Q ?_
  rintro r s1 ⟨rfl,h1⟩
  simp only [↓vcPre,↓z0,↓reduceIte,vcPost,vcStd,Nat.reduceEqDiff,reduceCtorEq,Nat.reduceAdd,Nat.reduceLeDiff,Int.reduceLT,Int.reduceLE,↓u_setN]
  refine (qy h1 (by simp [be1];omega) _).Q ?_
  rintro r s2 ⟨rfl,h2⟩
  simp only [hlen,↓vcPre,↓z0,↓reduceIte,vcPost,vcStd,Nat.reduceEqDiff,reduceCtorEq,Nat.reduceAdd,Nat.reduceLeDiff,Int.reduceLT,Int.reduceLE,↓u_setN]
  refine (zes h2 (by simp [be1];omega) _).Q ?_
  rintro r s3 ⟨rfl,h3⟩
  simp only [↓vcPre,↓z0,↓reduceIte,vcPost,vcStd,Nat.reduceEqDiff,reduceCtorEq,Nat.reduceAdd,Nat.reduceLeDiff,Int.reduceLT,Int.reduceLE,↓u_setN]
  refine (zap h3 hw (by simp [be1,be2];omega) (by omega)).Q ?_
  rintro r s4 ⟨rfl,h4⟩
  simp only [↓vcPre,↓z0,↓reduceIte,vcPost,vcStd,Nat.reduceEqDiff,reduceCtorEq,Nat.reduceAdd,Nat.reduceLeDiff,Int.reduceLT,Int.reduceLE,↓u_setN]
  refine EndQ.to _ _ rfl (Store.sub_refl _) ⟨rfl,?_⟩
  simp only [be1,be2,hor.2.2,hk8,List.append_assoc,List.cons_append,List.nil_append] at h4
  unfold oneA
  rw [if_pos (by omega)]
  exact h4
 ·refine (qy h (by omega) _).Q ?_
  rintro r s1 ⟨rfl,h1⟩
  simp only [↓vcPre,↓z0,↓reduceIte,vcPost,vcStd,Nat.reduceEqDiff,reduceCtorEq,Nat.reduceAdd,Nat.reduceLeDiff,Int.reduceLT,Int.reduceLE,↓u_setN]
  refine (qy h1 (by simp [be1];omega) _).Q ?_
  rintro r s2 ⟨rfl,h2⟩
  simp only [hlen,↓vcPre,↓z0,↓reduceIte,vcPost,vcStd,Nat.reduceEqDiff,reduceCtorEq,Nat.reduceAdd,Nat.reduceLeDiff,Int.reduceLT,Int.reduceLE,↓u_setN]
  refine (qy h2 (by simp [be1];omega) _).Q ?_
  rintro r s3 ⟨rfl,h3⟩
  simp only [↓vcPre,↓z0,↓reduceIte,vcPost,vcStd,Nat.reduceEqDiff,reduceCtorEq,Nat.reduceAdd,Nat.reduceLeDiff,Int.reduceLT,Int.reduceLE,↓u_setN]
  refine (zap h3 hw (by simp [be1];omega) (by omega)).Q ?_
  rintro r s4 ⟨rfl,h4⟩
  simp only [↓vcPre,↓z0,↓reduceIte,vcPost,vcStd,Nat.reduceEqDiff,reduceCtorEq,Nat.reduceAdd,Nat.reduceLeDiff,Int.reduceLT,Int.reduceLE,↓u_setN]
  refine EndQ.to _ _ rfl (Store.sub_refl _) ⟨rfl,?_⟩
  have e:(M.length:Int) % 256=(M.length:Int):=by omega
  simp only [be1,hor.2.1,hk8,e,List.append_assoc,List.cons_append,List.nil_append] at h4
  unfold oneA
  rw [if_neg (by omega)]
  exact h4
theorem vc (l:List Int) (k:Nat) (h:k<l.length):encW (l.take (k+1))=encW (l.take k)++b4 l[k]:=by
 unfold encW
 rw [List.take_add_one,List.getElem?_eq_getElem h,List.flatMap_append]
 simp only [Option.toList_some,List.flatMap_cons,List.flatMap_nil,List.append_nil]
set_option maxRecDepth 20000 in
theorem s65 {σ:Store} {l:List Int} {v:AV} (hr:Rd 1 σ (l.map cU) v) (hl:l.length≤100000):ACalls Tryz.prog 65 [v] σ (fun r s=>s=σ∧r = .sl 1 ((encW l).map cB)):=by
 refine zg Tst.F65 (by simp [Tst.F65,Fn.mkX]) ?_
 simp only [Tst.F65,Fn.mkX,Tst.b65]
 have hlen:pv .len [v]=some (.int .i64 (l.length:Int)):=by rw [hr.2];simp
 simp only [↓vcPre,↓z0,↓reduceIte,vcPost,vcStd,Nat.reduceEqDiff,reduceCtorEq,Nat.reduceAdd,Nat.reduceLeDiff,Int.reduceLT,Int.reduceLE,↓u_setN]
 refine (s62 σ).Q ?_
 rintro r s ⟨id,rfl,hW⟩
 simp only [↓vcPre,↓z0,↓reduceIte,vcPost,vcStd,Nat.reduceEqDiff,reduceCtorEq,Nat.reduceAdd,Nat.reduceLeDiff,Int.reduceLT,Int.reduceLE,↓u_setN]
 rw [hlen,yr]
 refine LoopQ.inv (S:=Nat×Store) (fun q=>[(3,.ptr id 0),(7,v),(8,.int .i64 (l.length:Int)),(9,.int .i64 (q.1:Int))]) (fun q=>q.2) (fun q=>q.1≤l.length∧WI σ id (encW (l.take q.1)) q.2) (fun q=>l.length+1 - q.1) (0,s) rfl (Store.sub_refl _) ⟨by simp only;omega,by simpa [encW] using hW⟩ ?_
 rintro ⟨k,s⟩ ⟨hk,hW⟩
 simp only at hk hW
 simp only [↓vcPre,↓z0,↓reduceIte,vcPost,vcStd,Nat.reduceEqDiff,reduceCtorEq,Nat.reduceAdd,Nat.reduceLeDiff,Int.reduceLT,Int.reduceLE,↓u_setN]
 have hle:=yk (l.take k)
 rw [List.length_take] at hle
 refine ⟨fun c1 => ?_,fun c1 => ?_⟩
 ·have ek:IntKind.i64.wrap ((k:Int)+1)=((k+1:Nat):Int):=by rw [zd (by unfold I64;omega)];omega
  obtain ⟨p,hp,hpr⟩:=hr.at (k:=k) (by simpa using c1)
  have hrd:=hpr s hW.2.1 1
  rw [List.getElem_map] at hrd
  simp only [hp,hrd,cU,↓vcPre,↓z0,↓reduceIte,vcPost,vcStd,Nat.reduceEqDiff,reduceCtorEq,Nat.reduceAdd,Nat.reduceLeDiff,Int.reduceLT,Int.reduceLE,↓u_setN]
  refine (zaq hW (by omega) _).Q ?_
  rintro r s' ⟨rfl,h'⟩
  simp only [↓vcPre,↓z0,↓reduceIte,vcPost,vcStd,Nat.reduceEqDiff,reduceCtorEq,Nat.reduceAdd,Nat.reduceLeDiff,Int.reduceLT,Int.reduceLE,↓u_setN]
  rw [ek]
  rw [be4] at h'
  exact NextQ.to (k+1,s') rfl (Store.sub_refl _) (by simp only;omega) ⟨by simp only;omega,by rw [vc _ _ c1];exact h'⟩
 ·have e:l.take k=l:=List.take_of_length_le (by omega)
  rw [e] at hW hle
  refine (s66 hW (by omega)).Q ?_
  rintro r s' ⟨rfl,rfl⟩
  simp only [↓vcPre,↓z0,↓reduceIte,vcPost,vcStd,Nat.reduceEqDiff,reduceCtorEq,Nat.reduceAdd,Nat.reduceLeDiff,Int.reduceLT,Int.reduceLE,↓u_setN]
  exact EndQ.to _ _ rfl hW.2.1 ⟨rfl,rfl⟩
end Go.Am
namespace Go.Am
open Go.Proofs Go.Sort
theorem inc_pt {l:List Int}:Inc l↔∀ i,∀ h:i+1<l.length,l[i]<l[i+1]:=by
 unfold Inc
 rw [List.pairwise_iff_getElem]
 constructor
 ·intro h i hi;exact h i (i+1) (by omega) hi (by omega)
 ·intro h i j hi hj hij
  induction j with
  | zero=>omega
  | succ j ih =>
    have h1:=h j hj
    by_cases e:i=j
    ·subst e;exact h1
    ·have:=ih (by omega) (by omega);omega
instance (l:List Int):Decidable (Inc l):=inferInstanceAs (Decidable (l.Pairwise (· < ·)))
instance (a:At):Decidable (atRight a):=inferInstanceAs (Decidable (_∧_∧_∧_∧_∧_∧_))
theorem zed (s:Seg):Pur Tryz.prog 130 [.agg s.c] (.bool (decide (segRight s))):=by
 refine zp Tst.F130 (by simp [Tst.F130,Fn.mkX]) fun σ => ?_
 simp only [Tst.F130,Fn.mkX,Tst.b130]
 simp only [Seg.c,↓vcPre,↓z0,↓reduceIte,vcPost,vcStd,Nat.reduceEqDiff,reduceCtorEq,Nat.reduceAdd,Nat.reduceLeDiff,Int.reduceLT,Int.reduceLE,↓u_setN]
 refine AllocQ.i0 fun i hi => ?_
 simp only [Seg.c,↓vcPre,↓z0,↓reduceIte,vcPost,vcStd,Nat.reduceEqDiff,reduceCtorEq,Nat.reduceAdd,Nat.reduceLeDiff,Int.reduceLT,Int.reduceLE,↓u_setN]
 have hsb:=Store.sub_set σ i (.box [.int .i64 s.kind,.sl 1 (s.ls.map cU)]) hi
 (repeat' first
   | (refine ⟨fun _ => ?_,fun _ => ?_⟩)
   | (refine ⟨?_,hsb⟩)
   | (refine decide_eq_decide.2 ?_;unfold segRight;omega)
   | (symm;rw [decide_eq_false_iff_not];unfold segRight;omega)
   | (symm;rw [decide_eq_true_iff];unfold segRight;omega))
theorem c99 (l:List Seg) (hl:l.length≤1000000):Pur Tryz.prog 99 [.sl 2 (l.map Seg.c)] (.bool (decide (pathRight l))):=by
 refine zp Tst.F99 (by simp [Tst.F99,Fn.mkX]) fun σ => ?_
 simp only [Tst.F99,Fn.mkX,Tst.b99]
 simp only [↓vcPre,↓z0,↓reduceIte,vcPost,vcStd,Nat.reduceEqDiff,reduceCtorEq,Nat.reduceAdd,Nat.reduceLeDiff,Int.reduceLT,Int.reduceLE,↓u_setN]
 refine LoopQ.inv (S:=Nat) (fun k=>[(0,.sl 2 (l.map Seg.c)),(5,.sl 2 (l.map Seg.c)),(6,.int .i64 (l.length:Int)),(7,.int .i64 (k:Int))]) (fun _=>σ) (fun k=>k≤l.length∧∀ s ∈ l.take k,segRight s) (fun k=>l.length+1 - k) 0 rfl (Store.sub_refl _) ⟨by omega,by simp⟩ ?_
 rintro k ⟨hk,hr⟩
 simp only [↓vcPre,↓z0,↓reduceIte,vcPost,vcStd,Nat.reduceEqDiff,reduceCtorEq,Nat.reduceAdd,Nat.reduceLeDiff,Int.reduceLT,Int.reduceLE,↓u_setN]
 refine ⟨fun c1 => ?_,fun c1 => ?_⟩
 ·have ek:IntKind.i64.wrap ((k:Int)+1)=((k+1:Nat):Int):=by rw [zd (by unfold I64;omega)];omega
  refine ⟨c1,by simp [Seg.c],?_⟩
  refine AllocQ.i0 fun i hi => ?_
  simp only [Seg.c,Store.set_set,↓vcPre,↓z0,↓reduceIte,vcPost,vcStd,Nat.reduceEqDiff,reduceCtorEq,Nat.reduceAdd,Nat.reduceLeDiff,Int.reduceLT,Int.reduceLE,↓u_setN]
  refine (zed l[k]).Q ?_
  have hsb:=Store.sub_set σ i (.box [.int .i64 l[k].kind,.sl 1 (l[k].ls.map cU)]) hi
  by_cases g:segRight l[k]
  ·rw [decide_eq_true g]
   simp only [↓vcPre,↓z0,↓reduceIte,vcPost,vcStd,Nat.reduceEqDiff,reduceCtorEq,Nat.reduceAdd,Nat.reduceLeDiff,Int.reduceLT,Int.reduceLE,↓u_setN]
   rw [ek]
   refine NextQ.to (k+1) rfl hsb (by omega) ⟨by omega,fun s hs => ?_⟩
   rw [List.take_add_one,List.getElem?_eq_getElem c1] at hs
   rcases List.mem_append.1 hs with h | h
   ·exact hr s h
   ·simp at h;subst h;exact g
  ·rw [decide_eq_false g]
   simp only [↓vcPre,↓z0,↓reduceIte,vcPost,vcStd,Nat.reduceEqDiff,reduceCtorEq,Nat.reduceAdd,Nat.reduceLeDiff,Int.reduceLT,Int.reduceLE,↓u_setN]
   refine ⟨?_,hsb⟩
   rw [decide_eq_false (fun h:pathRight l=>g (h.1 _ (List.getElem_mem c1)))]
 ·have e:l.take k=l:=List.take_of_length_le (by omega)
  rw [e] at hr
  refine decide_eq_decide.2 ⟨fun h=>⟨hr,by omega⟩,fun h => ?_⟩
  have:=h.2;omega
theorem z23 (x:Int):x.fdiv 16777216=x / 16777216:=Int.fdiv_eq_ediv_of_nonneg _ (by omega)
theorem c31 (n:Int):Pur Tryz.prog 31 [.int .u32 n] (.bool (decide (goodN n))):=by
 refine zp Tst.F31 (by simp [Tst.F31,Fn.mkX]) fun σ => ?_
 simp only [Tst.F31,Fn.mkX,Tst.b31]
 have e:shrInt .u32 n 24=n / 16777216:=by
  simp [shrInt,IntKind.bits,z23]
 simp only [e,↓vcPre,↓z0,↓reduceIte,vcPost,vcStd,Nat.reduceEqDiff,reduceCtorEq,Nat.reduceAdd,Nat.reduceLeDiff,Int.reduceLT,Int.reduceLE,↓u_setN]
 have hsb:=Store.sub_refl σ
 (repeat' first
   | (refine ⟨fun _ => ?_,fun _ => ?_⟩)
   | (refine ⟨?_,hsb⟩)
   | (refine decide_eq_decide.2 ?_;unfold goodN;omega)
   | (symm;rw [decide_eq_false_iff_not];unfold goodN;omega)
   | (symm;rw [decide_eq_true_iff];unfold goodN;omega))
theorem ze7 (l:List Int) (hl:l.length≤1000000):Pur Tryz.prog 100 [.sl 1 (l.map cU)] (.bool (decide (Inc l))):=by
 refine zp Tst.F100 (by simp [Tst.F100,Fn.mkX]) fun σ => ?_
 simp only [Tst.F100,Fn.mkX,Tst.b100]
 simp only [↓vcPre,↓z0,↓reduceIte,vcPost,vcStd,Nat.reduceEqDiff,reduceCtorEq,Nat.reduceAdd,Nat.reduceLeDiff,Int.reduceLT,Int.reduceLE,↓u_setN]
 refine LoopQ.inv (S:=Nat) (fun k=>[(0,.sl 1 (l.map cU)),(3,.int .i64 ((k+1:Nat):Int))]) (fun _=>σ) (fun k=>k≤l.length∧∀ i,∀ h:i+1<l.length,i<k→l[i]<l[i+1]) (fun k=>l.length+1 - k) 0 rfl (Store.sub_refl _) ⟨by omega,fun i _ h=>by omega⟩ ?_
 rintro k ⟨hk,hr⟩
 simp only [↓vcPre,↓z0,↓reduceIte,vcPost,vcStd,Nat.reduceEqDiff,reduceCtorEq,Nat.reduceAdd,Nat.reduceLeDiff,Int.reduceLT,Int.reduceLE,↓u_setN]
 refine ⟨fun c1 => ?_,fun c1 => ?_⟩
 ·have ek:IntKind.i64.wrap (((k+1:Nat):Int)+1)=((k+1+1:Nat):Int):=by rw [zd (by unfold I64;omega)];omega
  have em:IntKind.i64.wrap (((k+1:Nat):Int) - 1)=(k:Int):=by rw [zd (by unfold I64;omega)];omega
  rw [em]
  simp only [Int.toNat_natCast]
  refine ⟨by omega,by omega,c1,by simp [cU],?_⟩
  simp only [cU,↓vcPre,↓z0,↓reduceIte,vcPost,vcStd,Nat.reduceEqDiff,reduceCtorEq,Nat.reduceAdd,Nat.reduceLeDiff,Int.reduceLT,Int.reduceLE,↓u_setN]
  refine ⟨fun g => ?_,fun g => ?_⟩
  ·rw [decide_eq_false (fun h:Inc l=>by have:=inc_pt.1 h k (by omega);omega)]
  ·rw [ek]
   refine NextQ.to (k+1) rfl (Store.sub_refl _) (by omega) ⟨by omega,fun i hi hik => ?_⟩
   by_cases e:i=k
   ·subst e;omega
   ·exact hr i hi (by omega)
 ·rw [decide_eq_true (inc_pt.2 fun i hi=>hr i hi (by omega))]
theorem c61 (a:At) (ha:a.ok):Pur Tryz.prog 61 [.agg a.c] (.bool (decide (atRight a))):=by
 refine zp Tst.F61 (by simp [Tst.F61,Fn.mkX]) fun σ => ?_
 simp only [Tst.F61,Fn.mkX,Tst.b61]
 simp only [At.c,↓vcPre,↓z0,↓reduceIte,vcPost,vcStd,Nat.reduceEqDiff,reduceCtorEq,Nat.reduceAdd,Nat.reduceLeDiff,Int.reduceLT,Int.reduceLE,↓u_setN]
 refine AllocQ.i0 fun i hi => ?_
 have hsb:=Store.sub_set σ i (.box a.c) hi
 have hTb:(σ.set i (.box a.c)) i=some (.box [.int .i64 a.org,.sl 2 (a.path.map Seg.c),.int .u32 a.nxt,.bool a.hm,.int .u32 a.med,.bool a.hp,.int .u32 a.prf,.bool a.atm,.sl 1 (a.cms.map cU)]):=Store.set_same _ _ _
 change bops _ _ _ (σ.set i (.box a.c)) _
 generalize σ.set i (.box a.c)=T at hsb hTb ⊢
 have no:¬ atRight a→false=decide (atRight a)∧Store.sub σ T:=fun h=>⟨by rw [decide_eq_false h],hsb⟩
 by_cases h1:a.org<0
 ·simp only [hTb,h1,↓vcPre,↓z0,↓reduceIte,vcPost,vcStd,Nat.reduceEqDiff,reduceCtorEq,Nat.reduceAdd,Nat.reduceLeDiff,Int.reduceLT,Int.reduceLE,↓u_setN]
  exact no fun h=>by have:=h.1;omega
 by_cases h2:2<a.org
 ·simp only [hTb,h1,h2,↓vcPre,↓z0,↓reduceIte,vcPost,vcStd,Nat.reduceEqDiff,reduceCtorEq,Nat.reduceAdd,Nat.reduceLeDiff,Int.reduceLT,Int.reduceLE,↓u_setN]
  exact no fun h=>by have:=h.1;omega
 simp only [hTb,h1,h2,↓vcPre,↓z0,↓reduceIte,vcPost,vcStd,Nat.reduceEqDiff,reduceCtorEq,Nat.reduceAdd,Nat.reduceLeDiff,Int.reduceLT,Int.reduceLE,↓u_setN]
 refine (c99 a.path ha.1).Q ?_
 by_cases g1:pathRight a.path
 case neg=>rw [decide_eq_false g1];simp only [↓vcPre,↓z0,↓reduceIte,vcPost,vcStd,Nat.reduceEqDiff,reduceCtorEq,Nat.reduceAdd,Nat.reduceLeDiff,Int.reduceLT,Int.reduceLE,↓u_setN];exact no fun h=>g1 h.2.1
 rw [decide_eq_true g1]
 simp only [hTb,↓vcPre,↓z0,↓reduceIte,vcPost,vcStd,Nat.reduceEqDiff,reduceCtorEq,Nat.reduceAdd,Nat.reduceLeDiff,Int.reduceLT,Int.reduceLE,↓u_setN]
 refine (c31 a.nxt).Q ?_
 by_cases g2:goodN a.nxt
 case neg=>rw [decide_eq_false g2];simp only [↓vcPre,↓z0,↓reduceIte,vcPost,vcStd,Nat.reduceEqDiff,reduceCtorEq,Nat.reduceAdd,Nat.reduceLeDiff,Int.reduceLT,Int.reduceLE,↓u_setN];exact no fun h=>g2 h.2.2.1
 rw [decide_eq_true g2]
 cases hm:a.hm <;> cases hp:a.hp
 all_goals
  simp only [hTb,hm,hp,↓vcPre,↓z0,↓reduceIte,vcPost,vcStd,Nat.reduceEqDiff,reduceCtorEq,Nat.reduceAdd,Nat.reduceLeDiff,Int.reduceLT,Int.reduceLE,↓u_setN]
  (repeat' first
    | (refine ⟨fun _ => ?_,fun _ => ?_⟩)
    | (exact no (fun h=>by have:=h.2.2.2.2.2.1;omega))
    | (exact no (fun h=>by have:=h.2.2.2;simp_all)))
 all_goals
  refine (ze7 a.cms (by have:=ha.2.2;omega)).Q ?_
  by_cases g3:Inc a.cms
  ·rw [decide_eq_true g3]
   simp only [↓vcPre,↓z0,↓reduceIte,vcPost,vcStd,Nat.reduceEqDiff,reduceCtorEq,Nat.reduceAdd,Nat.reduceLeDiff,Int.reduceLT,Int.reduceLE,↓u_setN]
   refine ⟨?_,hsb⟩
   symm
   rw [decide_eq_true_iff]
   exact ⟨⟨by omega,by omega⟩,g1,g2,by simp_all,by simp_all,by omega,g3⟩
  ·rw [decide_eq_false g3]
   simp only [↓vcPre,↓z0,↓reduceIte,vcPost,vcStd,Nat.reduceEqDiff,reduceCtorEq,Nat.reduceAdd,Nat.reduceLeDiff,Int.reduceLT,Int.reduceLE,↓u_setN]
   exact no fun h=>g3 h.2.2.2.2.2.2
end Go.Am
namespace Go.Am
theorem z2f (fl k:Int) (v:List Int):(oneA fl k v).length=(if 255<v.length then 4 else 3)+v.length:=by unfold oneA;split <;> simp <;> omega
structure It where
 k:Int
 v:List Int
def It.enc (i:It):List Int:=oneA (wantOf i.k) i.k i.v
theorem vl {l:List Seg} (h:pathRight l):(encPath l).length≤16352:=by
 have:∀ l:List Seg,(∀ s ∈ l,segRight s)→(encPath l).length≤1022*l.length:=by
  intro l
  induction l with
  | nil=>intro _;simp [encPath]
  | cons s r ih =>
    intro h
    have h1:=ih fun x hx=>h x (by simp [hx])
    have h2:=(h s (by simp)).2.2
    have h3:=yk s.ls
    simp only [encPath,List.flatMap_cons,List.length_append,encSeg,List.length_cons,List.length_nil] at *
    omega
 have h1:=this l h.1
 have h2:=h.2
 omega
end Go.Am
namespace Go.Am.Tsi
open Go.Proofs Go.Am.B
def t27_52:BC := .seq (z [f 52 8 1,l 53 1 52,u 54 .len 53,c 55 .gtr 54 0] [1,4,55] (.cond (.t 55) (.ops [m 56 4,f 57 8 1,l 58 1 57,g 59 65 [.t 58],g 60 63 [.t 56,.c (.int .i64 8),.t 59]] [4]) .skip)) (z [m 61 4,g 62 66 [.t 61],m 2 62,j 3 0] [2,3] .ret)
def t27_48:BC := .seq (z [f 48 7 1,l 49 1 48] [1,4,49] (.cond (.t 49) (.ops [m 50 4,g 51 63 [.t 50,.c (.int .i64 6),.c .nils]] [1,4]) .skip)) t27_52
def t27_40:BC := .seq (z [f 40 5 1,l 41 1 40] [1,4,41] (.cond (.t 41) (.ops [m 42 4,f 43 6 1,l 44 1 43,⟨some 45,none,.alloc (.mksl 1 1),[.t 44]⟩,g 46 65 [.t 45],g 47 63 [.t 42,.c (.int .i64 5),.t 46]] [1,4]) .skip)) t27_48
def t27_32:BC := .seq (z [f 32 3 1,l 33 1 32] [1,4,33] (.cond (.t 33) (.ops [m 34 4,f 35 4 1,l 36 1 35,⟨some 37,none,.alloc (.mksl 1 1),[.t 36]⟩,g 38 65 [.t 37],g 39 63 [.t 34,.c (.int .i64 4),.t 38]] [1,4]) .skip)) t27_40
def b27:BC:=z [⟨some 1,none,.alloc (.box),[.t 0]⟩,k 2 .nils,j 3 0] [1] (.seq (z [⟨some 7,none,.load (.ld 9 true),[.t 1]⟩,g 8 61 [.t 7],u 9 .not 8] [1,9] (.cond (.t 9) (z [k 2 .nils,j 3 12] [2,3] .ret) .skip)) (z [g 10 62 [],m 4 10] [1,4] (z [m 11 4,f 12 0 1,l 13 1 12,u 14 (.conv .u8) 13,⟨some 15,none,.alloc (.mksl 1 1),[.t 14]⟩,g 16 63 [.t 11,.c (.int .i64 1),.t 15]] [1,4] (z [f 18 1 1,l 19 1 18,g 20 64 [.t 19],m 17 20,e 21 0 17,e 22 1 17,m 5 21,m 6 22] [1,4,5] (z [m 23 4,m 24 5,g 25 63 [.t 23,.c (.int .i64 2),.t 24]] [1,4] (z [m 26 4,f 27 2 1,l 28 1 27,⟨some 29,none,.alloc (.mksl 1 1),[.t 28]⟩,g 30 65 [.t 29],g 31 63 [.t 26,.c (.int .i64 3),.t 30]] [1,4] t27_32))))))
def F27:Fn Tryz.prog 27:=Fn.mkX false b27 [.t 2,.t 3] 63 Tryz.f27 _ Tryz.func27 (by decide) rfl Tryz.ntmps27 (by kernel_rfl) (by kernel_rfl)
end Go.Am.Tsi
namespace Go.Am
open Go.Proofs Go.Sort
theorem Own.with {esz:Nat} {τ s:Store} {L:List (List AV)} {v:AV} {b:Nat} {o:Obj} (h:Own esz τ L v s) (hb:s b=none):Own esz (τ.set b o) L v (s.set b o):=by
 rcases h with h | ⟨g,h1,h2,h3⟩
 ·exact .inl h
 ·have hgb:¬ g=b:=fun e=>by rw [e,hb] at h3;cases h3
  exact .inr ⟨g,h1,by rw [Store.set_ne _ _ hgb];exact h2,by rw [Store.set_ne _ _ hgb];exact h3⟩
theorem WI.with {τ s:Store} {id b:Nat} {L:List Int} {o:Obj} (h:WI τ id L s) (hb:s b=none):WI (τ.set b o) id L (s.set b o):=by
 obtain ⟨h1,h2,v,h3,h4⟩:=h
 have hib:¬ id=b:=fun e=>by rw [e,hb] at h3;cases h3
 exact ⟨by rw [Store.set_ne _ _ hib];exact h1,qa h2,v,by rw [Store.set_ne _ _ hib];exact h3,h4.with hb⟩
theorem WI.weak {τ τ' s:Store} {id:Nat} {L:List Int} (h:WI τ' id L s) (hs:Store.sub τ τ'):WI τ id L s:=by
 obtain ⟨h1,h2,v,h3,h4⟩:=h
 exact ⟨zk hs h1,Store.sub_trans hs h2,v,h3,h4.weak hs⟩
theorem uo (l:List Seg) (k:Nat) (h:k<l.length):encPath (l.take (k+1))=encPath (l.take k)++encSeg l[k]:=by
 unfold encPath
 rw [List.take_add_one,List.getElem?_eq_getElem h,List.flatMap_append]
 simp only [Option.toList_some,List.flatMap_cons,List.flatMap_nil,List.append_nil]
theorem z0t {l:List Seg} (h:pathRight l) (k:Nat):pathRight (l.take k):=⟨fun s hs=>h.1 s (List.mem_of_mem_take hs),by rw [List.length_take];have:=h.2;omega⟩
theorem c64 (l:List Seg) (hl:l.length≤1000000) (hr:pathRight l):Pur Tryz.prog 64 [.sl 2 (l.map Seg.c)] (.tup [.sl 1 ((encPath l).map cB),.int .i64 0]):=by
 intro σ
 refine zg Tst.F64 (by simp [Tst.F64,Fn.mkX]) ?_
 simp only [Tst.F64,Fn.mkX,Tst.b64]
 simp only [↓vcPre,↓z0,↓reduceIte,vcPost,vcStd,Nat.reduceEqDiff,reduceCtorEq,Nat.reduceAdd,Nat.reduceLeDiff,Int.reduceLT,Int.reduceLE,↓u_setN]
 refine (c99 l hl).Q ?_
 rw [decide_eq_true hr]
 simp only [↓vcPre,↓z0,↓reduceIte,vcPost,vcStd,Nat.reduceEqDiff,reduceCtorEq,Nat.reduceAdd,Nat.reduceLeDiff,Int.reduceLT,Int.reduceLE,↓u_setN]
 refine (s62 σ).Q ?_
 rintro r s ⟨id,rfl,hW⟩
 simp only [↓vcPre,↓z0,↓reduceIte,vcPost,vcStd,Nat.reduceEqDiff,reduceCtorEq,Nat.reduceAdd,Nat.reduceLeDiff,Int.reduceLT,Int.reduceLE,↓u_setN]
 refine LoopQ.inv (S:=Nat×Store) (fun q=>[(4,.ptr id 0),(13,.sl 2 (l.map Seg.c)),(14,.int .i64 (l.length:Int)),(15,.int .i64 (q.1:Int))]) (fun q=>q.2) (fun q=>q.1≤l.length∧WI σ id (encPath (l.take q.1)) q.2) (fun q=>l.length+1 - q.1) (0,s) rfl (Store.sub_refl _) ⟨by simp only;omega,by simpa [encPath] using hW⟩ ?_
 rintro ⟨k,s⟩ ⟨hk,hW⟩
 simp only at hk hW
 simp only [↓vcPre,↓z0,↓reduceIte,vcPost,vcStd,Nat.reduceEqDiff,reduceCtorEq,Nat.reduceAdd,Nat.reduceLeDiff,Int.reduceLT,Int.reduceLE,↓u_setN]
 have hlen:=vl (z0t hr k)
 refine ⟨fun c1 => ?_,fun c1 => ?_⟩
 ·have ek:IntKind.i64.wrap ((k:Int)+1)=((k+1:Nat):Int):=by rw [zd (by unfold I64;omega)];omega
  have hsr:=hr.1 _ (List.getElem_mem c1)
  refine ⟨c1,by simp [Seg.c],?_⟩
  refine AllocQ.i0 fun i hi => ?_
  simp only [Seg.c,Store.set_set,↓vcPre,↓z0,↓reduceIte,vcPost,vcStd,Nat.reduceEqDiff,reduceCtorEq,Nat.reduceAdd,Nat.reduceLeDiff,Int.reduceLT,Int.reduceLE,↓u_setN]
  have hT:=hW.with (b:=i) (o := .box [.int .i64 l[k].kind,.sl 1 (l[k].ls.map cU)]) hi
  have hτi:σ i=none:=zk hW.2.1 hi
  have hTi:(σ.set i (.box [.int .i64 l[k].kind,.sl 1 (l[k].ls.map cU)])) i=some (.box [.int .i64 l[k].kind,.sl 1 (l[k].ls.map cU)]):=Store.set_same _ _ _
  have hσT:Store.sub σ (σ.set i (.box [.int .i64 l[k].kind,.sl 1 (l[k].ls.map cU)])):=Store.sub_set _ _ _ hτi
  generalize σ.set i (.box [.int .i64 l[k].kind,.sl 1 (l[k].ls.map cU)])=σ' at hT hTi hσT
  generalize s.set i (.box [.int .i64 l[k].kind,.sl 1 (l[k].ls.map cU)])=T at hT ⊢
  refine (qy hT (by omega) _).Q ?_
  rintro r s1 ⟨rfl,h1⟩
  simp only [h1.2.1 _ _ hTi,↓vcPre,↓z0,↓reduceIte,vcPost,vcStd,Nat.reduceEqDiff,reduceCtorEq,Nat.reduceAdd,Nat.reduceLeDiff,Int.reduceLT,Int.reduceLE,↓u_setN]
  refine (qy h1 (by simp [be1];omega) _).Q ?_
  rintro r s2 ⟨rfl,h2⟩
  simp only [h2.2.1 _ _ hTi,↓vcPre,↓z0,↓reduceIte,vcPost,vcStd,Nat.reduceEqDiff,reduceCtorEq,Nat.reduceAdd,Nat.reduceLeDiff,Int.reduceLT,Int.reduceLE,↓u_setN]
  have hseg:=hsr.2.2
  refine LoopQ.inv (S:=Nat×Store) (fun q=>[(4,.ptr id 0),(13,.sl 2 (l.map Seg.c)),(14,.int .i64 (l.length:Int)),(15,.int .i64 (k:Int)),(29,.sl 1 (l[k].ls.map cU)),(30,.int .i64 (l[k].ls.length:Int)),(31,.int .i64 (q.1:Int))]) (fun q=>q.2) (fun q=>q.1≤l[k].ls.length∧WI σ' id (encPath (l.take k)++beN 1 (IntKind.u64.wrap l[k].kind)++beN 1 (IntKind.u64.wrap (l[k].ls.length:Int))++encW (l[k].ls.take q.1)) q.2) (fun q=>l[k].ls.length+1 - q.1) (0,s2) rfl (Store.sub_refl _) ⟨by simp only;omega,by simpa [encW] using h2⟩ ?_
  rintro ⟨j,s3⟩ ⟨hj,h3⟩
  simp only at hj h3
  simp only [↓vcPre,↓z0,↓reduceIte,vcPost,vcStd,Nat.reduceEqDiff,reduceCtorEq,Nat.reduceAdd,Nat.reduceLeDiff,Int.reduceLT,Int.reduceLE,↓u_setN]
  have hle:=yk (l[k].ls.take j)
  rw [List.length_take] at hle
  refine ⟨fun d1 => ?_,fun d1 => ?_⟩
  ·have ej:IntKind.i64.wrap ((j:Int)+1)=((j+1:Nat):Int):=by rw [zd (by unfold I64;omega)];omega
   refine ⟨d1,by simp [cU],?_⟩
   simp only [cU,↓vcPre,↓z0,↓reduceIte,vcPost,vcStd,Nat.reduceEqDiff,reduceCtorEq,Nat.reduceAdd,Nat.reduceLeDiff,Int.reduceLT,Int.reduceLE,↓u_setN]
   refine (zaq h3 (by simp [be1];omega) _).Q ?_
   rintro r s4 ⟨rfl,h4⟩
   simp only [↓vcPre,↓z0,↓reduceIte,vcPost,vcStd,Nat.reduceEqDiff,reduceCtorEq,Nat.reduceAdd,Nat.reduceLeDiff,Int.reduceLT,Int.reduceLE,↓u_setN]
   rw [ej]
   rw [be4] at h4
   exact NextQ.to (j+1,s4) rfl (Store.sub_refl _) (by simp only;omega) ⟨by simp only;omega,by rw [vc _ _ d1,←List.append_assoc];exact h4⟩
  ·have e:l[k].ls.take j=l[k].ls:=List.take_of_length_le (by omega)
   rw [e] at h3
   rw [ek]
   refine NextQ.to (k+1,s3) rfl (Store.sub_refl _) (by simp only;omega) ⟨by simp only;omega,?_⟩
   simp only
   rw [uo _ _ c1]
   simp only [be1] at h3
   simp only [encSeg,List.append_assoc,List.cons_append,List.nil_append] at h3 ⊢
   exact h3.weak hσT
 ·have e:l.take k=l:=List.take_of_length_le (by omega)
  rw [e] at hW hlen
  refine (s66 hW (by omega)).Q ?_
  rintro r s' ⟨rfl,rfl⟩
  simp only [↓vcPre,↓z0,↓reduceIte,vcPost,vcStd,Nat.reduceEqDiff,reduceCtorEq,Nat.reduceAdd,Nat.reduceLeDiff,Int.reduceLT,Int.reduceLE,↓u_setN]
  exact EndQ.to _ _ rfl hW.2.1 ⟨rfl,rfl⟩
theorem z84 {a:At} (h:atRight a):(encA a).length≤20000:=by
 obtain ⟨r1,r2,r3,r4,r5,r6,r7⟩:=h
 have h1:=vl r2
 have h2:=yk a.cms
 unfold encA
 simp only [List.length_append]
 have ol:∀ fl k v,(oneA fl k v).length≤4+v.length:=fun fl k v=>by rw [z2f];split <;> omega
 have o1:=ol 64 1 [a.org % 256]
 have o2:=ol 64 2 (encPath a.path)
 have o3:=ol 64 3 (b4 a.nxt)
 have o4:=ol 128 4 (b4 a.med)
 have o5:=ol 64 5 (b4 a.prf)
 have o6:=ol 64 6 []
 have o8:=ol 192 8 (encW a.cms)
 have hb:∀ n,(b4 n).length=4:=fun _=>rfl
 simp only [hb,List.length_cons,List.length_nil] at o1 o2 o3 o4 o5 o6 o8
 split <;> split <;> split <;> split <;> (try simp only [List.length_nil]) <;> omega
def boxC (a:At):Obj := .box [.int .i64 a.org,.sl 2 (a.path.map Seg.c),.int .u32 a.nxt,.bool a.hm,.int .u32 a.med,.bool a.hp,.int .u32 a.prf,.bool a.atm,.sl 1 (a.cms.map cU)]
theorem x5 (fl k:Int) (v:List Int):(oneA fl k v).length≤4+v.length:=by rw [z2f];split <;> omega
theorem yv (n:Int):(b4 n).length=4:=rfl
theorem z48 (n:Int):encW [n]=b4 n:=by simp [encW]
theorem z1j (a:At) (ha:a.ok) (h8:a.cms.length≤32) {T s:Store} {i id:Nat} {L:List Int} (hTi:T i=some (boxC a)) (h:WI T id L s) (hL:L.length≤100000) {n r:Env→Store→Prop} {x:Nat→Env→Store→Prop}
 (hr:∀ s',Store.sub T s'→r [(2,.sl 1 ((L++(if a.cms=[] then [] else oneA 192 8 (encW a.cms))).map cB)),(3,.int .i64 0)] s'):bwp Tryz.prog Tsi.t27_52 [(1,.ptr i 0),(4,.ptr id 0)] s n r x:=by
 simp only [Tsi.t27_52]
 have hi:=h.2.1 _ _ hTi
 simp only [hi,boxC,↓vcPre,↓z0,↓reduceIte,vcPost,vcStd,Nat.reduceEqDiff,reduceCtorEq,Nat.reduceAdd,Nat.reduceLeDiff,Int.reduceLT,Int.reduceLE,↓u_setN]
 have hc:=yk a.cms
 refine ⟨fun c1 => ?_,fun c1 => ?_⟩
 ·refine (s65 (l:=a.cms) Rd.sl (by omega)).Q ?_
  rintro r' s' ⟨rfl,rfl⟩
  simp only [↓vcPre,↓z0,↓reduceIte,vcPost,vcStd,Nat.reduceEqDiff,reduceCtorEq,Nat.reduceAdd,Nat.reduceLeDiff,Int.reduceLT,Int.reduceLE,↓u_setN]
  refine (s63 h 8 (by decide) Rd.sl (by omega) (by omega)).Q ?_
  rintro r' s1 ⟨rfl,h1⟩
  simp only [↓vcPre,↓z0,↓reduceIte,vcPost,vcStd,Nat.reduceEqDiff,reduceCtorEq,Nat.reduceAdd,Nat.reduceLeDiff,Int.reduceLT,Int.reduceLE,↓u_setN]
  have hl:=x5 (wantOf 8) 8 (encW a.cms)
  refine (s66 h1 (by rw [List.length_append];omega)).Q ?_
  rintro r' s2 ⟨rfl,rfl⟩
  simp only [↓vcPre,↓z0,↓reduceIte,vcPost,vcStd,Nat.reduceEqDiff,reduceCtorEq,Nat.reduceAdd,Nat.reduceLeDiff,Int.reduceLT,Int.reduceLE,↓u_setN]
  have:=hr s2 h1.2.1
  rw [if_neg (fun e=>by rw [e] at c1;simp at c1)] at this
  exact this
 ·refine (s66 h (by omega)).Q ?_
  rintro r' s2 ⟨rfl,rfl⟩
  simp only [↓vcPre,↓z0,↓reduceIte,vcPost,vcStd,Nat.reduceEqDiff,reduceCtorEq,Nat.reduceAdd,Nat.reduceLeDiff,Int.reduceLT,Int.reduceLE,↓u_setN]
  have:=hr s2 h.2.1
  rw [if_pos (List.length_eq_zero_iff.1 (by omega)),List.append_nil] at this
  exact this
theorem z1i (a:At) (ha:a.ok) (h8:a.cms.length≤32) {T s:Store} {i id:Nat} {L:List Int} (hTi:T i=some (boxC a)) (h:WI T id L s) (hL:L.length≤90000) {n r:Env→Store→Prop} {x:Nat→Env→Store→Prop}
 (hr:∀ s',Store.sub T s'→r [(2,.sl 1 ((L++(if a.atm then oneA 64 6 [] else [])++(if a.cms=[] then [] else oneA 192 8 (encW a.cms))).map cB)),(3,.int .i64 0)] s'):bwp Tryz.prog Tsi.t27_48 [(1,.ptr i 0),(4,.ptr id 0)] s n r x:=by
 simp only [Tsi.t27_48]
 have hi:=h.2.1 _ _ hTi
 cases g:a.atm
 ·simp only [hi,boxC,g,↓vcPre,↓z0,↓reduceIte,vcPost,vcStd,Nat.reduceEqDiff,reduceCtorEq,Nat.reduceAdd,Nat.reduceLeDiff,Int.reduceLT,Int.reduceLE,↓u_setN]
  refine z1j a ha h8 hTi h (by omega) fun s' hs' => ?_
  have:=hr s' hs'
  rw [g] at this
  simpa using this
 ·simp only [hi,boxC,g,↓vcPre,↓z0,↓reduceIte,vcPost,vcStd,Nat.reduceEqDiff,reduceCtorEq,Nat.reduceAdd,Nat.reduceLeDiff,Int.reduceLT,Int.reduceLE,↓u_setN]
  refine (s63 h 6 (by decide) (M:=[]) Rd.nils (by omega) (by simp)).Q ?_
  rintro r' s1 ⟨rfl,h1⟩
  simp only [↓vcPre,↓z0,↓reduceIte,vcPost,vcStd,Nat.reduceEqDiff,reduceCtorEq,Nat.reduceAdd,Nat.reduceLeDiff,Int.reduceLT,Int.reduceLE,↓u_setN]
  refine z1j a ha h8 hTi h1 (by have:=x5 (wantOf 6) 6 [];simp at this ⊢;omega) fun s' hs' => ?_
  have:=hr s' hs'
  rw [g] at this
  exact this
theorem z1h (a:At) (ha:a.ok) (h8:a.cms.length≤32) {T s:Store} {i id:Nat} {L:List Int} (hTi:T i=some (boxC a)) (h:WI T id L s) (hL:L.length≤80000) {n r:Env→Store→Prop} {x:Nat→Env→Store→Prop}
 (hr:∀ s',Store.sub T s'→r [(2,.sl 1 ((L++(if a.hp then oneA 64 5 (b4 a.prf) else [])++(if a.atm then oneA 64 6 [] else [])++(if a.cms=[] then [] else oneA 192 8 (encW a.cms))).map cB)),(3,.int .i64 0)] s'):bwp Tryz.prog Tsi.t27_40 [(1,.ptr i 0),(4,.ptr id 0)] s n r x:=by
 simp only [Tsi.t27_40]
 have hi:=h.2.1 _ _ hTi
 cases g:a.hp
 ·simp only [hi,boxC,g,↓vcPre,↓z0,↓reduceIte,vcPost,vcStd,Nat.reduceEqDiff,reduceCtorEq,Nat.reduceAdd,Nat.reduceLeDiff,Int.reduceLT,Int.reduceLE,↓u_setN]
  refine z1i a ha h8 hTi h (by omega) fun s' hs' => ?_
  have:=hr s' hs'
  rw [g] at this
  simpa using this
 ·have hTi5:=(h).2.1 _ _ hTi
  simp only [hTi5,boxC,g,↓vcPre,↓z0,↓reduceIte,vcPost,vcStd,Nat.reduceEqDiff,reduceCtorEq,Nat.reduceAdd,Nat.reduceLeDiff,Int.reduceLT,Int.reduceLE,↓u_setN]
  refine AllocQ.i0 fun b hb => ?_
  simp only [↓vcPre,↓z0,↓reduceIte,vcPost,vcStd,Nat.reduceEqDiff,reduceCtorEq,Nat.reduceAdd,Nat.reduceLeDiff,Int.reduceLT,Int.reduceLE,↓u_setN]
  refine (s65 (l:=[a.prf]) (Rd.os (L:=[a.prf].map cU) (Store.set_same _ _ _)) (by simp)).Q ?_
  rintro r s' ⟨rfl,rfl⟩
  rw [z48]
  simp only [↓vcPre,↓z0,↓reduceIte,vcPost,vcStd,Nat.reduceEqDiff,reduceCtorEq,Nat.reduceAdd,Nat.reduceLeDiff,Int.reduceLT,Int.reduceLE,↓u_setN]
  have hw:=(h).mono (Store.sub_set _ b (.arr 1 [[.int .u32 a.prf]]) hb)
  refine (s63 hw 5 (by decide) Rd.sl (by omega) (by rw [yv];omega)).Q ?_
  rintro r s1 ⟨rfl,h1⟩
  have hl5:=x5 (wantOf 5) 5 (b4 a.prf)
  rw [yv] at hl5
  simp only [↓vcPre,↓z0,↓reduceIte,vcPost,vcStd,Nat.reduceEqDiff,reduceCtorEq,Nat.reduceAdd,Nat.reduceLeDiff,Int.reduceLT,Int.reduceLE,↓u_setN]
  refine z1i a ha h8 hTi h1 (by rw [List.length_append];omega) fun s' hs' => ?_
  have:=hr s' hs'
  rw [g] at this
  exact this
theorem z5n (a:At) (ha:a.ok) (h8:a.cms.length≤32) {T s:Store} {i id:Nat} {L:List Int} (hTi:T i=some (boxC a)) (h:WI T id L s) (hL:L.length≤70000) {n r:Env→Store→Prop} {x:Nat→Env→Store→Prop}
 (hr:∀ s',Store.sub T s'→r [(2,.sl 1 ((L++(if a.hm then oneA 128 4 (b4 a.med) else [])++(if a.hp then oneA 64 5 (b4 a.prf) else [])++(if a.atm then oneA 64 6 [] else [])++(if a.cms=[] then [] else oneA 192 8 (encW a.cms))).map cB)),(3,.int .i64 0)] s'):bwp Tryz.prog Tsi.t27_32 [(1,.ptr i 0),(4,.ptr id 0)] s n r x:=by
 simp only [Tsi.t27_32]
 have hi:=h.2.1 _ _ hTi
 cases g:a.hm
 ·simp only [hi,boxC,g,↓vcPre,↓z0,↓reduceIte,vcPost,vcStd,Nat.reduceEqDiff,reduceCtorEq,Nat.reduceAdd,Nat.reduceLeDiff,Int.reduceLT,Int.reduceLE,↓u_setN]
  refine z1h a ha h8 hTi h (by omega) fun s' hs' => ?_
  have:=hr s' hs'
  rw [g] at this
  simpa using this
 ·have hTi4:=(h).2.1 _ _ hTi
  simp only [hTi4,boxC,g,↓vcPre,↓z0,↓reduceIte,vcPost,vcStd,Nat.reduceEqDiff,reduceCtorEq,Nat.reduceAdd,Nat.reduceLeDiff,Int.reduceLT,Int.reduceLE,↓u_setN]
  refine AllocQ.i0 fun b hb => ?_
  simp only [↓vcPre,↓z0,↓reduceIte,vcPost,vcStd,Nat.reduceEqDiff,reduceCtorEq,Nat.reduceAdd,Nat.reduceLeDiff,Int.reduceLT,Int.reduceLE,↓u_setN]
  refine (s65 (l:=[a.med]) (Rd.os (L:=[a.med].map cU) (Store.set_same _ _ _)) (by simp)).Q ?_
  rintro r s' ⟨rfl,rfl⟩
  rw [z48]
  simp only [↓vcPre,↓z0,↓reduceIte,vcPost,vcStd,Nat.reduceEqDiff,reduceCtorEq,Nat.reduceAdd,Nat.reduceLeDiff,Int.reduceLT,Int.reduceLE,↓u_setN]
  have hw:=(h).mono (Store.sub_set _ b (.arr 1 [[.int .u32 a.med]]) hb)
  refine (s63 hw 4 (by decide) Rd.sl (by omega) (by rw [yv];omega)).Q ?_
  rintro r s1 ⟨rfl,h1⟩
  have hl4:=x5 (wantOf 4) 4 (b4 a.med)
  rw [yv] at hl4
  simp only [↓vcPre,↓z0,↓reduceIte,vcPost,vcStd,Nat.reduceEqDiff,reduceCtorEq,Nat.reduceAdd,Nat.reduceLeDiff,Int.reduceLT,Int.reduceLE,↓u_setN]
  refine z1h a ha h8 hTi h1 (by rw [List.length_append];omega) fun s' hs' => ?_
  have:=hr s' hs'
  rw [g] at this
  exact this
set_option maxHeartbeats 600000 in
theorem c27 (a:At) (ha:a.ok):Pur Tryz.prog 27 [.agg a.c] (.tup [.sl 1 ((if atRight a then encA a else []).map cB),.int .i64 (if atRight a then 0 else 12)]):=by
 intro σ
 refine zg Tsi.F27 (by simp [Tsi.F27,Fn.mkX]) ?_
 simp only [Tsi.F27,Fn.mkX,Tsi.b27]
 simp only [↓vcPre,↓z0,↓reduceIte,vcPost,vcStd,Nat.reduceEqDiff,reduceCtorEq,Nat.reduceAdd,Nat.reduceLeDiff,Int.reduceLT,Int.reduceLE,↓u_setN]
 refine AllocQ.i0 fun i hi => ?_
 have e9:∀ x:At,x.c.length=9:=fun _=>rfl
 have t9:∀ x:At,List.take 9 x.c=x.c:=fun _=>rfl
 simp only [e9,t9,Nat.le_refl,↓vcPre,↓z0,↓reduceIte,vcPost,vcStd,Nat.reduceEqDiff,reduceCtorEq,Nat.reduceAdd,Nat.reduceLeDiff,Int.reduceLT,Int.reduceLE,↓u_setN]
 have hsb:=Store.sub_set σ i (.box a.c) hi
 have hTi:(σ.set i (.box a.c)) i=some (boxC a):=Store.set_same _ _ _
 generalize σ.set i (.box a.c)=T at hsb hTi ⊢
 refine (c61 a ha).Q ?_
 by_cases hr:atRight a
 case neg =>
  rw [decide_eq_false hr]
  simp only [↓vcPre,↓z0,↓reduceIte,vcPost,vcStd,Nat.reduceEqDiff,reduceCtorEq,Nat.reduceAdd,Nat.reduceLeDiff,Int.reduceLT,Int.reduceLE,↓u_setN]
  rw [if_neg hr,if_neg hr]
  exact EndQ.twoNil (.int .i64 12) 1 σ rfl hsb ⟨rfl,rfl⟩
 rw [decide_eq_true hr,if_pos hr,if_pos hr]
 have hall:=z84 hr
 obtain ⟨r1,r2,r3,r4,r5,r6,r7⟩:=id hr
 have hpl:=vl r2
 simp only [↓vcPre,↓z0,↓reduceIte,vcPost,vcStd,Nat.reduceEqDiff,reduceCtorEq,Nat.reduceAdd,Nat.reduceLeDiff,Int.reduceLT,Int.reduceLE,↓u_setN]
 refine (s62 T).Q ?_
 rintro r s0 ⟨id,rfl,h0⟩
 have hT0:=h0.2.1 _ _ hTi
 simp only [hT0,boxC,↓vcPre,↓z0,↓reduceIte,vcPost,vcStd,Nat.reduceEqDiff,reduceCtorEq,Nat.reduceAdd,Nat.reduceLeDiff,Int.reduceLT,Int.reduceLE,↓u_setN]
 refine AllocQ.i0 fun b hb => ?_
 simp only [↓vcPre,↓z0,↓reduceIte,vcPost,vcStd,Nat.reduceEqDiff,reduceCtorEq,Nat.reduceAdd,Nat.reduceLeDiff,Int.reduceLT,Int.reduceLE,↓u_setN]
 refine (s63 (h0.with (o := .arr 1 [cB (IntKind.u8.wrap a.org)]) hb) 1 (by decide) (M:=[IntKind.u8.wrap a.org]) (Rd.os (Store.set_same _ _ _)) (by simp) (by simp)).Q ?_
 rintro r s1 ⟨rfl,h1⟩
 have h1:=h1.weak (Store.sub_set _ _ _ (zk h0.2.1 hb))
 have hl1:=x5 (wantOf 1) 1 [IntKind.u8.wrap a.org]
 have hT1:=h1.2.1 _ _ hTi
 simp only [hT1,boxC,↓vcPre,↓z0,↓reduceIte,vcPost,vcStd,Nat.reduceEqDiff,reduceCtorEq,Nat.reduceAdd,Nat.reduceLeDiff,Int.reduceLT,Int.reduceLE,↓u_setN]
 refine (c64 a.path ha.1 r2).Q ?_
 simp only [↓vcPre,↓z0,↓reduceIte,vcPost,vcStd,Nat.reduceEqDiff,reduceCtorEq,Nat.reduceAdd,Nat.reduceLeDiff,Int.reduceLT,Int.reduceLE,↓u_setN]
 refine (s63 h1 2 (by decide) Rd.sl (by simp at hl1 ⊢;omega) (by omega)).Q ?_
 rintro r s2 ⟨rfl,h2⟩
 have hl2:=x5 (wantOf 2) 2 (encPath a.path)
 have hlen2:([]++oneA (wantOf 1) 1 [IntKind.u8.wrap a.org]++oneA (wantOf 2) 2 (encPath a.path)).length≤20000:=by simp at hl1 hl2 ⊢;omega
 simp only [↓vcPre,↓z0,↓reduceIte,vcPost,vcStd,Nat.reduceEqDiff,reduceCtorEq,Nat.reduceAdd,Nat.reduceLeDiff,Int.reduceLT,Int.reduceLE,↓u_setN]
 have hTi2:=(h2).2.1 _ _ hTi
 simp only [hTi2,boxC,e9,↓vcPre,↓z0,↓reduceIte,vcPost,vcStd,Nat.reduceEqDiff,reduceCtorEq,Nat.reduceAdd,Nat.reduceLeDiff,Int.reduceLT,Int.reduceLE,↓u_setN]
 refine AllocQ.i0 fun b hb => ?_
 simp only [↓vcPre,↓z0,↓reduceIte,vcPost,vcStd,Nat.reduceEqDiff,reduceCtorEq,Nat.reduceAdd,Nat.reduceLeDiff,Int.reduceLT,Int.reduceLE,↓u_setN]
 refine (s65 (l:=[a.nxt]) (Rd.os (L:=[a.nxt].map cU) (Store.set_same _ _ _)) (by simp)).Q ?_
 rintro r s' ⟨rfl,rfl⟩
 rw [z48]
 simp only [↓vcPre,↓z0,↓reduceIte,vcPost,vcStd,Nat.reduceEqDiff,reduceCtorEq,Nat.reduceAdd,Nat.reduceLeDiff,Int.reduceLT,Int.reduceLE,↓u_setN]
 have hw:=(h2).mono (Store.sub_set _ b (.arr 1 [[.int .u32 a.nxt]]) hb)
 refine (s63 hw 3 (by decide) Rd.sl (by omega) (by rw [yv];omega)).Q ?_
 rintro r s3 ⟨rfl,h3⟩
 have hl2:=x5 (wantOf 3) 3 (b4 a.nxt)
 rw [yv] at hl2
 simp only [↓vcPre,↓z0,↓reduceIte,vcPost,vcStd,Nat.reduceEqDiff,reduceCtorEq,Nat.reduceAdd,Nat.reduceLeDiff,Int.reduceLT,Int.reduceLE,↓u_setN]
 refine z5n a ha r6 hTi h3 (by rw [List.length_append];omega) fun s' hs' => ?_
 refine EndQ.to _ _ rfl (Store.sub_trans hsb hs') ⟨rfl,?_⟩
 simp only [encA,u8w,List.nil_append]
 rfl
end Go.Am
namespace Go.Am.Tsj
open Go.Proofs Go.Am.B
def t11_39:BC := .seq (z [f 39 8 1,l 40 1 39,u 41 .len 40,c 42 .gtr 41 0] [1,3,42] (.cond (.t 42) (z [k 4 .nils] [1,3,4] (.seq (z [j 5 0] [1,3,4,5] (.block 0 (.loop [1,3,4,5] (.seq (z [m 43 5,f 44 8 1,l 45 1 44,u 46 .len 45,b 47 .lss 43 46] [1,3,4,5,47] (.cond (.t 47) .skip (.exit 0))) (.seq (.block 1 (.ops [m 50 4,f 51 8 1,l 52 1 51,m 53 5,x 54 1 52 53,l 55 1 54,g 56 39 [.t 50,.t 55],m 4 56] [1,3,4,5])) (.ops [m 48 5,c 49 .add 48 1,m 5 49] [1,3,4,5])))))) (.ops [m 57 3,m 58 4,g 59 37 [.t 57,.c (.int .i64 192),.c (.int .i64 8),.t 58],m 3 59] [3]))) .skip)) (z [m 60 3,m 2 60] [2] .ret)
def t11_35:BC := .seq (z [f 35 7 1,l 36 1 35] [1,3,36] (.cond (.t 36) (.ops [m 37 3,g 38 37 [.t 37,.c (.int .i64 64),.c (.int .i64 6),.c .nils],m 3 38] [1,3]) .skip)) t11_39
def t11_28:BC := .seq (z [f 28 5 1,l 29 1 28] [1,3,29] (.cond (.t 29) (.ops [m 30 3,f 31 6 1,l 32 1 31,g 33 39 [.c .nils,.t 32],g 34 37 [.t 30,.c (.int .i64 64),.c (.int .i64 5),.t 33],m 3 34] [1,3]) .skip)) t11_35
def t11_21:BC := .seq (z [f 21 3 1,l 22 1 21] [1,3,22] (.cond (.t 22) (.ops [m 23 3,f 24 4 1,l 25 1 24,g 26 39 [.c .nils,.t 25],g 27 37 [.t 23,.c (.int .i64 128),.c (.int .i64 4),.t 26],m 3 27] [1,3]) .skip)) t11_28
def b11:BC:=z [⟨some 1,none,.alloc (.box),[.t 0]⟩,k 2 .nils] [1] (z [f 6 0 1,l 7 1 6,u 8 (.conv .u8) 7,⟨some 9,none,.alloc (.mksl 1 1),[.t 8]⟩,g 10 37 [.c .nils,.c (.int .i64 64),.c (.int .i64 1),.t 9],m 3 10] [1,3] (z [m 11 3,f 12 1 1,l 13 1 12,g 14 38 [.t 13],g 15 37 [.t 11,.c (.int .i64 64),.c (.int .i64 2),.t 14],m 3 15] [1,3] (z [m 16 3,f 17 2 1,l 18 1 17,g 19 39 [.c .nils,.t 18],g 20 37 [.t 16,.c (.int .i64 64),.c (.int .i64 3),.t 19],m 3 20] [1,3] t11_21)))
def F11:Fn Tryz.prog 11:=Fn.mkX false b11 [.t 2] 61 Tryz.f11 _ Tryz.func11 (by decide) rfl Tryz.ntmps11 (by kernel_rfl) (by kernel_rfl)
end Go.Am.Tsj
