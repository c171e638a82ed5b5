/- A part of the proof: a logic for calls over plain values, and the functions that the law reaches, each walked once. -/
import Derived.Test.YtplkahhkogncjaaGreatQB14
import Derived.Test.YtplkahhkogncjaaGreatProg
set_option linter.unusedVariables false
set_option linter.unusedSimpArgs false
set_option linter.unusedSectionVars false
namespace Go.Am.Ins
open Go.RowKit Go.Shelf Go.Proofs Go.Lib
set_option linter.unusedVariables false
set_option linter.unusedSimpArgs false
theorem z0q:(Tryz.prog.info? 22).map (fun i=>(i.zero,i.size,i.bytes))=some (some (.int .u32 0),1,4):=by kernel_rfl
set_option maxHeartbeats 4000000 in
set_option maxRecDepth 100000 in
theorem ze5 (base:Option Addr) (c:Nat) (xb:Addr) (xc:Nat) (w:World) (v':Value) (w':World) (h:(Builtin.append_ #[30,30] 30 #[.slice base 0 c,.slice (some xb) 1 xc]).run Tryz.prog w = .ok v' w') :
 Calls Tryz.prog 136 #[.slice base 0 c,.int .i64 0,.slice (some xb) 1 xc] w fun r w2=>r = .returned v'∧w2=w':=by
 go_enter Tryz.func136,Tryz.ntmps136
 cases base with
 | none =>
   go_wp2_with (at_builtin;refine Lib.wpList_append_run _ rfl _ _ _ _ rfl _ _ rfl rfl _ _ h ?_)
   go_ret
   exact ⟨rfl,rfl⟩
 | some a =>
   obtain ⟨ab,ao,asp⟩:=a
   go_wp2_with (at_builtin;refine Lib.wpList_append_run _ rfl _ _ _ _ rfl _ _ rfl rfl _ _ h ?_)
   all_goals (go_ret;exact ⟨rfl,rfl⟩)
set_option maxHeartbeats 4000000 in
set_option maxRecDepth 100000 in
theorem zc0 (b o n c vb vo vc:Nat) (cur vcur:Array Value) (t vt:TypeId) (vs cs:List Value) (w:World) (hn:0<n) (hbig:n≤140737488355328) (hroom:n+1≤c) (hb:w.heap[b]? = some (.cells cur t (0,0))) (hv:w.heap[vb]? = some (.cells vcur vt (0,0))) (hne:vb≠b)
 (lv:vs.length=1) (lc:cs.length=n*1) (hvs:∀ j v,vs[j]? = some v→w.cell? ⟨vb,vo+j,none⟩=some v) (hcs:∀ j v,cs[j]? = some v→w.cell? ⟨b,o+j,none⟩=some v) (hsz:o+(n+1)*1≤cur.size)
 (ov:∀ v ∈ vs,v.oneCell'=true) (oc:∀ v ∈ cs,v.oneCell'=true) :
 Calls Tryz.prog 136 #[.slice (some ⟨b,o,none⟩) n c,.int .i64 0,.slice (some ⟨vb,vo,none⟩) 1 vc] w fun r w2=>r = .returned (.slice (some ⟨b,o,none⟩) (n+1) c)∧w2.tape=w.tape∧w2.os=w.os∧w2.output=w.output∧w.drawn≤w2.drawn ∧
  w2.heap=(w.setRow b (lay (lay cur (o+1) cs) o vs)).heap:=by
 have hz1:¬ ((n:Int)=0):=by omega
 have hz2:¬ ((0:Int)=(n:Int)):=by omega
 have hw1:IntKind.i64.wrap ((n:Int)+1)=(n:Int)+1:=by rw [IntKind.wrap_i64];omega
 have htn:((n:Int)+1).toNat=n+1:=by omega
 have mixed:Tryz.prog.follows Departure.mixedOrders=true:=by kernel_rfl
 have hw0:IntKind.i64.wrap 1=1:=by decide
 have hb1':(1:Int)≤(n:Int)+1:=by omega
 have hb2':(0:Int)≤(n:Int)+1:=by omega
 have hc1':¬ (c=1):=by omega
 have ht1:(1:Int).toNat=1:=rfl
 have hsS:tsz Tryz.prog 22=some 1:=by
  obtain ⟨i0,hi0,h0,h1,h2⟩:=info_parts z0q
  unfold tsz;rw [hi0];simp [h1]
 have hsO:∀ w,(Go.sizeOf 22).run Tryz.prog w = .ok 1 w:=fun w=>zy hsS
 have fz:∀ x k,w.frozen? ⟨vb,x,k⟩=false:=fun x k=>by simp [World.frozen?,hv]
 have hov:∀ o' lb cb,(callFunc 176 #[.slice (some ⟨vb,vo,none⟩) 1 vc,.slice (some ⟨b,o',none⟩) lb cb]).run Tryz.prog w = .ok (.value (.bool false)) w:=fun o' lb cb=>by
  rw [run_callFunc_extern Tryz.func176 (by kernel_rfl) (by kernel_rfl) (by kernel_rfl) (e:=Extern.SlicesOverlaps.overlaps #[30,30] #[4]) (by kernel_rfl),
   Lib.run_overlaps_apart w 30 4 22 Tryz.underlying30 1 hsO ⟨vb,vo,none⟩ ⟨b,o',none⟩ 1 vc lb cb hne vt t vcur.size cur.size (by simp [World.shape?,hv]) (by simp [World.shape?,hb]) (by omega) (fz _ _) (fz _ _)]
  rfl
 have l1:o+1+cs.length≤cur.size:=by omega
 have hcp1:∀ (W:World),W.heap=w.heap→∀ ty dc sc,(Builtin.copy_ #[30,30] ty #[.slice (some ⟨b,o+1,none⟩) n dc,.slice (some ⟨b,o,none⟩) (n+1) sc]).run Tryz.prog W = .ok (goInt n) (W.setRow b (lay cur (o+1) cs)):=fun W hW ty dc sc =>
  y8 W b (o+1) n dc ⟨b,o,none⟩ (n+1) sc n cur t cs Tryz.underlying30 hsS (by rw [hW];exact hb) (by simp only [Nat.min_def];split <;> omega) lc
   (fun j v hj=>by have:=hcs j v hj;simpa [y0,World.cell?,hW] using this) l1 oc
 obtain ⟨c1,hc1⟩:∃ c1,c1=lay cur (o+1) cs:=⟨_,rfl⟩
 have s1:c1.size=cur.size:=by rw [hc1];exact wg l1
 have hb1:(w.setRow b c1).heap[b]? = some (.cells c1 t (0,0)):=zw hb
 have hcp2:∀ (W:World),W.heap=(w.setRow b c1).heap→∀ ty dc,(Builtin.copy_ #[30,30] ty #[.slice (some ⟨b,o,none⟩) (n+1) dc,.slice (some ⟨vb,vo,none⟩) 1 vc]).run Tryz.prog W = .ok (goInt (1:Nat)) (W.setRow b (lay c1 o vs)):=fun W hW ty dc =>
  y8 W b o (n+1) dc ⟨vb,vo,none⟩ 1 vc 1 c1 t vs Tryz.underlying30 hsS (by rw [hW];exact hb1) (by simp only [Nat.min_def];split <;> omega) (by omega)
   (fun j v hj=>by have:=hvs j v hj;simpa [y0,World.cell?,hW,ya c1 hne] using this) (by omega) ov
 rw [←hc1] at hcp1 ⊢
 clear hc1
 go_enter Tryz.func136,Tryz.ntmps136
 go_wp2_with (simp only [hov])
 go_region_law_o (refine step_copy_runI rfl _ _ 30 30 rfl (.slice (some ⟨b,o+1,none⟩) n (c - 1)) (.slice (some ⟨b,o,none⟩) (n+1) c) (by simp [Act.eval,Act.put]) (by simp [Act.eval,Act.put]) (hcp1 w.drew rfl 3 (c - 1) c) ?_)
 have hcp3:=hcp2 (w.drew.setRow b c1) rfl
 go_wp2
 go_ret
 refine ⟨rfl,rfl,rfl,rfl,Nat.le_succ _,?_⟩
 rw [setRow_setRow]
 rfl
set_option maxHeartbeats 4000000 in
set_option maxRecDepth 100000 in
theorem zdz (b o n vb vo vc:Nat) (cur vcur:Array Value) (t vt:TypeId) (vs cs:List Value) (w:World) (hn:0<n) (hbig:(n+1)*4≤140737488355328) (hb:w.heap[b]? = some (.cells cur t (0,0))) (hv:w.heap[vb]? = some (.cells vcur vt (0,0)))
 (lv:vs.length=1) (lc:cs.length=n*1) (hvs:∀ j v,vs[j]? = some v→w.cell? ⟨vb,vo+j,none⟩=some v) (hcs:∀ j v,cs[j]? = some v→w.cell? ⟨b,o+j,none⟩=some v)
 (ov:∀ v ∈ vs,v.oneCell'=true) (oc:∀ v ∈ cs,v.oneCell'=true) :
 Calls Tryz.prog 136 #[.slice (some ⟨b,o,none⟩) n n,.int .i64 0,.slice (some ⟨vb,vo,none⟩) 1 vc] w fun r w2=>∃ (cap:Nat) (row:Array Value),n+1≤cap∧row.size=cap*1∧r = .returned (.slice (some ⟨w.heap.size,0,none⟩) (n+1) cap) ∧
  w2.tape=w.tape∧w2.os=w.os∧w2.output=w.output∧w2.heap=w.heap.push (.cells (lay (lay row 0 vs) 1 cs) 22 (0,0)):=by
 obtain ⟨i0,hi0,hz0,hzs,hzb⟩:=info_parts z0q
 have hz1:¬ ((n:Int)=0):=by omega
 have hz2:¬ ((0:Int)=(n:Int)):=by omega
 have hw1:IntKind.i64.wrap ((n:Int)+1)=(n:Int)+1:=by rw [IntKind.wrap_i64];omega
 have mixed:Tryz.prog.follows Departure.mixedOrders=true:=by kernel_rfl
 have hw0:IntKind.i64.wrap 1=1:=by decide
 have hsS:tsz Tryz.prog 22=some 1:=by unfold tsz;rw [hi0];simp [hzs]
 have hlt:b<w.heap.size:=(Array.getElem?_eq_some_iff.1 hb).1
 have vlt:vb<w.heap.size:=(Array.getElem?_eq_some_iff.1 hv).1
 obtain ⟨G,hG⟩:∃ G,G=grownCap w (n+1) n 22:=⟨_,rfl⟩
 obtain ⟨row,hrow⟩:∃ row:Array Value,row=Builtin.zeroCells (.int .u32 0:Value).cells (n+1)++Builtin.zeroCells (.int .u32 0:Value).cells (G - (n+1)):=⟨_,rfl⟩
 have hrz:∀ ty,(Builtin.append_ #[30,3] ty #[.slice (some ⟨b,o,none⟩) 0 n,.int .i64 ((n:Int)+1)]).run Tryz.prog w =
  .ok (.slice (some ⟨w.heap.size,0,none⟩) (n+1) G) (w.drew.alloc (.cells row 22)):=fun ty=>by
  have hle:=uf (show n<n+1 by omega)
  have h:=Lib.run_append_grow_zeros (P:=Tryz.prog) w 30 3 ty 22 i0 _ .i64 .i64 Tryz.underlying30 Tryz.underlying3 hi0 hz0 (some ⟨b,o,none⟩) 0 n [] y4 (n+1) (by omega) (by omega) (by omega) (by omega) (by rw [hzb];omega)
   (by rw [hzb,Nat.zero_add];have:=Nat.mul_le_mul_right 4 hle;omega)
  rw [Nat.zero_add] at h
  rw [hrow,hG]
  simpa using h
 have hGn:n+1≤G:=by rw [hG];exact grownCap_ge w _ _ _
 have hrs:row.size=G*1:=by
  rw [hrow]
  simp [Builtin.zeroCells,Value.cells]
  omega
 clear hG hrow
 obtain ⟨W1,hW1⟩:∃ W1,W1=w.drew.alloc (.cells row 22):=⟨_,rfl⟩
 have hb1:W1.heap[w.heap.size]? = some (.cells row 22 (0,0)):=by rw [hW1];exact yz (w:=w.drew) _
 have hcell:∀ x j,x<w.heap.size→W1.cell? ⟨x,j,none⟩=w.cell? ⟨x,j,none⟩:=fun x j hx=>by
  rw [hW1];exact World.cell?_alloc_past (w:=w.drew) _ x j hx
 rw [←hW1] at hrz
 have lA:0+vs.length≤row.size:=by
  have:=Nat.mul_le_mul_right 1 hGn
  omega
 have hcpA:∀ (W:World),W.heap=W1.heap→∀ ty dc,(Builtin.copy_ #[30,30] ty #[.slice (some ⟨w.heap.size,0,none⟩) (n+1) dc,.slice (some ⟨vb,vo,none⟩) 1 vc]).run Tryz.prog W = .ok (goInt (1:Nat)) (W.setRow w.heap.size (lay row 0 vs)):=fun W hW ty dc =>
  y8 W w.heap.size 0 (n+1) dc ⟨vb,vo,none⟩ 1 vc 1 row 22 vs Tryz.underlying30 hsS (by rw [hW];exact hb1) (by simp only [Nat.min_def];split <;> omega) (by omega)
   (fun j v hj=>by
     have h1:=hvs j v hj
     rw [←hcell vb _ vlt] at h1
     simpa [y0,World.cell?,hW] using h1) lA ov
 obtain ⟨r1,hr1⟩:∃ r1,r1=lay row 0 vs:=⟨_,rfl⟩
 have s1:r1.size=row.size:=by rw [hr1];exact wg lA
 rw [←hr1] at hcpA
 have hb2:(W1.setRow w.heap.size r1).heap[w.heap.size]? = some (.cells r1 22 (0,0)):=zw hb1
 have lB:1+cs.length≤r1.size:=by
  have:=Nat.mul_le_mul_right 1 hGn
  omega
 have hcpB:∀ (W:World),W.heap=(W1.setRow w.heap.size r1).heap→∀ ty dc sc,(Builtin.copy_ #[30,30] ty #[.slice (some ⟨w.heap.size,1,none⟩) n dc,.slice (some ⟨b,o,none⟩) n sc]).run Tryz.prog W = .ok (goInt (n:Nat)) (W.setRow w.heap.size (lay r1 1 cs)):=fun W hW ty dc sc =>
  y8 W w.heap.size 1 n dc ⟨b,o,none⟩ n sc n r1 22 cs Tryz.underlying30 hsS (by rw [hW];exact hb2) (by simp only [Nat.min_def];split <;> omega) lc
   (fun j v hj=>by
     have h1:=hcs j v hj
     rw [←hcell b _ hlt] at h1
     simpa [y0,World.cell?,hW,ya (w:=W1) r1 (Nat.ne_of_lt hlt)] using h1) lB oc
 have ht1:(1:Int).toNat=1:=rfl
 have hb1':(1:Int)≤(n:Int)+1:=by omega
 have hb2':(0:Int)≤(n:Int)+1:=by omega
 have hc1':¬ (G=1):=by omega
 have hc2':¬ (G=0):=by omega
 subst hW1
 subst hr1
 have hcpD:=hcpA ((w.alloc (.cells row 22)).drew) rfl
 go_enter Tryz.func136,Tryz.ntmps136
 go_wp2_with (at_builtin;refine Lib.wpList_append_run _ rfl _ _ _ _ rfl _ _ rfl rfl _ _ (hrz _) ?_)
 have hcpC:=hcpB (((w.alloc (.cells row 22)).drew.setRow w.heap.size (lay row 0 vs)).drew) rfl 3 (G - 1) n
 go_region_law_o (refine step_copy_runI rfl _ _ 30 30 rfl (.slice (some ⟨w.heap.size,1,none⟩) n (G - 1)) (.slice (some ⟨b,o,none⟩) n n) (by simp [Act.eval,Act.put]) (by simp [Act.eval,Act.put]) hcpC ?_)
 go_wp2
 go_ret
 refine ⟨G,row,hGn,hrs,rfl,rfl,rfl,rfl,?_⟩
 exact um w row _ _ _
theorem holdsU:InsHolds Tryz.prog 136 30 22 1 4 [.int .u32 0] where
 ent:=⟨_,Tryz.func136,by decide,rfl⟩
 und:=Tryz.underlying30
 sz:=by
  obtain ⟨i0,hi0,hz0,hzs,hzb⟩:=info_parts z0q
  unfold tsz;rw [hi0];simp [hzs]
 zero:=by
  obtain ⟨i0,hi0,hz0,hzs,hzb⟩:=info_parts z0q
  unfold tzero;rw [hi0];simp [hz0,Value.cells,AV.ofCell]
 zl:=rfl
 inf:=by
  obtain ⟨i0,hi0,hz0,hzs,hzb⟩:=info_parts z0q
  exact ⟨i0,hi0,hzb,by omega⟩
 onto:=ze5
 shift:=zc0
 grow:=zdz
theorem z0p:(Tryz.prog.info? 38).map (fun i=>(i.zero,i.size,i.bytes))=some (some (.agg #[.int .i64 0,.slice none 0 0]),2,32):=by kernel_rfl
set_option maxHeartbeats 4000000 in
set_option maxRecDepth 100000 in
theorem ze4 (base:Option Addr) (c:Nat) (xb:Addr) (xc:Nat) (w:World) (v':Value) (w':World) (h:(Builtin.append_ #[31,31] 31 #[.slice base 0 c,.slice (some xb) 1 xc]).run Tryz.prog w = .ok v' w') :
 Calls Tryz.prog 137 #[.slice base 0 c,.int .i64 0,.slice (some xb) 1 xc] w fun r w2=>r = .returned v'∧w2=w':=by
 go_enter Tryz.func137,Tryz.ntmps137
 cases base with
 | none =>
   go_wp2_with (at_builtin;refine Lib.wpList_append_run _ rfl _ _ _ _ rfl _ _ rfl rfl _ _ h ?_)
   go_ret
   exact ⟨rfl,rfl⟩
 | some a =>
   obtain ⟨ab,ao,asp⟩:=a
   go_wp2_with (at_builtin;refine Lib.wpList_append_run _ rfl _ _ _ _ rfl _ _ rfl rfl _ _ h ?_)
   all_goals (go_ret;exact ⟨rfl,rfl⟩)
set_option maxHeartbeats 4000000 in
set_option maxRecDepth 100000 in
theorem zbz (b o n c vb vo vc:Nat) (cur vcur:Array Value) (t vt:TypeId) (vs cs:List Value) (w:World) (hn:0<n) (hbig:n≤140737488355328) (hroom:n+1≤c) (hb:w.heap[b]? = some (.cells cur t (0,0))) (hv:w.heap[vb]? = some (.cells vcur vt (0,0))) (hne:vb≠b)
 (lv:vs.length=2) (lc:cs.length=n*2) (hvs:∀ j v,vs[j]? = some v→w.cell? ⟨vb,vo+j,none⟩=some v) (hcs:∀ j v,cs[j]? = some v→w.cell? ⟨b,o+j,none⟩=some v) (hsz:o+(n+1)*2≤cur.size)
 (ov:∀ v ∈ vs,v.oneCell'=true) (oc:∀ v ∈ cs,v.oneCell'=true) :
 Calls Tryz.prog 137 #[.slice (some ⟨b,o,none⟩) n c,.int .i64 0,.slice (some ⟨vb,vo,none⟩) 1 vc] w fun r w2=>r = .returned (.slice (some ⟨b,o,none⟩) (n+1) c)∧w2.tape=w.tape∧w2.os=w.os∧w2.output=w.output∧w.drawn≤w2.drawn ∧
  w2.heap=(w.setRow b (lay (lay cur (o+2) cs) o vs)).heap:=by
 have hz1:¬ ((n:Int)=0):=by omega
 have hz2:¬ ((0:Int)=(n:Int)):=by omega
 have hw1:IntKind.i64.wrap ((n:Int)+1)=(n:Int)+1:=by rw [IntKind.wrap_i64];omega
 have htn:((n:Int)+1).toNat=n+1:=by omega
 have mixed:Tryz.prog.follows Departure.mixedOrders=true:=by kernel_rfl
 have hw0:IntKind.i64.wrap 1=1:=by decide
 have hb1':(1:Int)≤(n:Int)+1:=by omega
 have hb2':(0:Int)≤(n:Int)+1:=by omega
 have hc1':¬ (c=1):=by omega
 have ht1:(1:Int).toNat=1:=rfl
 have hsS:tsz Tryz.prog 38=some 2:=by
  obtain ⟨i0,hi0,h0,h1,h2⟩:=info_parts z0p
  unfold tsz;rw [hi0];simp [h1]
 have hsO:∀ w,(Go.sizeOf 38).run Tryz.prog w = .ok 2 w:=fun w=>zy hsS
 have fz:∀ x k,w.frozen? ⟨vb,x,k⟩=false:=fun x k=>by simp [World.frozen?,hv]
 have hov:∀ o' lb cb,(callFunc 178 #[.slice (some ⟨vb,vo,none⟩) 1 vc,.slice (some ⟨b,o',none⟩) lb cb]).run Tryz.prog w = .ok (.value (.bool false)) w:=fun o' lb cb=>by
  rw [run_callFunc_extern Tryz.func178 (by kernel_rfl) (by kernel_rfl) (by kernel_rfl) (e:=Extern.SlicesOverlaps.overlaps #[31,31] #[4]) (by kernel_rfl),
   Lib.run_overlaps_apart w 31 4 38 Tryz.underlying31 2 hsO ⟨vb,vo,none⟩ ⟨b,o',none⟩ 1 vc lb cb hne vt t vcur.size cur.size (by simp [World.shape?,hv]) (by simp [World.shape?,hb]) (by omega) (fz _ _) (fz _ _)]
  rfl
 have l1:o+2+cs.length≤cur.size:=by omega
 have hcp1:∀ (W:World),W.heap=w.heap→∀ ty dc sc,(Builtin.copy_ #[31,31] ty #[.slice (some ⟨b,o+2,none⟩) n dc,.slice (some ⟨b,o,none⟩) (n+1) sc]).run Tryz.prog W = .ok (goInt n) (W.setRow b (lay cur (o+2) cs)):=fun W hW ty dc sc =>
  y8 W b (o+2) n dc ⟨b,o,none⟩ (n+1) sc n cur t cs Tryz.underlying31 hsS (by rw [hW];exact hb) (by simp only [Nat.min_def];split <;> omega) lc
   (fun j v hj=>by have:=hcs j v hj;simpa [y0,World.cell?,hW] using this) l1 oc
 obtain ⟨c1,hc1⟩:∃ c1,c1=lay cur (o+2) cs:=⟨_,rfl⟩
 have s1:c1.size=cur.size:=by rw [hc1];exact wg l1
 have hb1:(w.setRow b c1).heap[b]? = some (.cells c1 t (0,0)):=zw hb
 have hcp2:∀ (W:World),W.heap=(w.setRow b c1).heap→∀ ty dc,(Builtin.copy_ #[31,31] ty #[.slice (some ⟨b,o,none⟩) (n+1) dc,.slice (some ⟨vb,vo,none⟩) 1 vc]).run Tryz.prog W = .ok (goInt (1:Nat)) (W.setRow b (lay c1 o vs)):=fun W hW ty dc =>
  y8 W b o (n+1) dc ⟨vb,vo,none⟩ 1 vc 1 c1 t vs Tryz.underlying31 hsS (by rw [hW];exact hb1) (by simp only [Nat.min_def];split <;> omega) (by omega)
   (fun j v hj=>by have:=hvs j v hj;simpa [y0,World.cell?,hW,ya c1 hne] using this) (by omega) ov
 rw [←hc1] at hcp1 ⊢
 clear hc1
 go_enter Tryz.func137,Tryz.ntmps137
 go_wp2_with (simp only [hov])
 go_region_law_o (refine step_copy_runI rfl _ _ 31 31 rfl (.slice (some ⟨b,o+2,none⟩) n (c - 1)) (.slice (some ⟨b,o,none⟩) (n+1) c) (by simp [Act.eval,Act.put]) (by simp [Act.eval,Act.put]) (hcp1 w.drew rfl 3 (c - 1) c) ?_)
 have hcp3:=hcp2 (w.drew.setRow b c1) rfl
 go_wp2
 go_ret
 refine ⟨rfl,rfl,rfl,rfl,Nat.le_succ _,?_⟩
 rw [setRow_setRow]
 rfl
set_option maxHeartbeats 4000000 in
set_option maxRecDepth 100000 in
theorem zdy (b o n vb vo vc:Nat) (cur vcur:Array Value) (t vt:TypeId) (vs cs:List Value) (w:World) (hn:0<n) (hbig:(n+1)*32≤140737488355328) (hb:w.heap[b]? = some (.cells cur t (0,0))) (hv:w.heap[vb]? = some (.cells vcur vt (0,0)))
 (lv:vs.length=2) (lc:cs.length=n*2) (hvs:∀ j v,vs[j]? = some v→w.cell? ⟨vb,vo+j,none⟩=some v) (hcs:∀ j v,cs[j]? = some v→w.cell? ⟨b,o+j,none⟩=some v)
 (ov:∀ v ∈ vs,v.oneCell'=true) (oc:∀ v ∈ cs,v.oneCell'=true) :
 Calls Tryz.prog 137 #[.slice (some ⟨b,o,none⟩) n n,.int .i64 0,.slice (some ⟨vb,vo,none⟩) 1 vc] w fun r w2=>∃ (cap:Nat) (row:Array Value),n+1≤cap∧row.size=cap*2∧r = .returned (.slice (some ⟨w.heap.size,0,none⟩) (n+1) cap) ∧
  w2.tape=w.tape∧w2.os=w.os∧w2.output=w.output∧w2.heap=w.heap.push (.cells (lay (lay row 0 vs) 2 cs) 38 (0,0)):=by
 obtain ⟨i0,hi0,hz0,hzs,hzb⟩:=info_parts z0p
 have hz1:¬ ((n:Int)=0):=by omega
 have hz2:¬ ((0:Int)=(n:Int)):=by omega
 have hw1:IntKind.i64.wrap ((n:Int)+1)=(n:Int)+1:=by rw [IntKind.wrap_i64];omega
 have mixed:Tryz.prog.follows Departure.mixedOrders=true:=by kernel_rfl
 have hw0:IntKind.i64.wrap 1=1:=by decide
 have hsS:tsz Tryz.prog 38=some 2:=by unfold tsz;rw [hi0];simp [hzs]
 have hlt:b<w.heap.size:=(Array.getElem?_eq_some_iff.1 hb).1
 have vlt:vb<w.heap.size:=(Array.getElem?_eq_some_iff.1 hv).1
 obtain ⟨G,hG⟩:∃ G,G=grownCap w (n+1) n 38:=⟨_,rfl⟩
 obtain ⟨row,hrow⟩:∃ row:Array Value,row=Builtin.zeroCells (.agg #[.int .i64 0,.slice none 0 0]:Value).cells (n+1)++Builtin.zeroCells (.agg #[.int .i64 0,.slice none 0 0]:Value).cells (G - (n+1)):=⟨_,rfl⟩
 have hrz:∀ ty,(Builtin.append_ #[31,3] ty #[.slice (some ⟨b,o,none⟩) 0 n,.int .i64 ((n:Int)+1)]).run Tryz.prog w =
  .ok (.slice (some ⟨w.heap.size,0,none⟩) (n+1) G) (w.drew.alloc (.cells row 38)):=fun ty=>by
  have hle:=uf (show n<n+1 by omega)
  have h:=Lib.run_append_grow_zeros (P:=Tryz.prog) w 31 3 ty 38 i0 _ .i64 .i64 Tryz.underlying31 Tryz.underlying3 hi0 hz0 (some ⟨b,o,none⟩) 0 n [] y4 (n+1) (by omega) (by omega) (by omega) (by omega) (by rw [hzb];omega)
   (by rw [hzb,Nat.zero_add];have:=Nat.mul_le_mul_right 32 hle;omega)
  rw [Nat.zero_add] at h
  rw [hrow,hG]
  simpa using h
 have hGn:n+1≤G:=by rw [hG];exact grownCap_ge w _ _ _
 have hrs:row.size=G*2:=by
  rw [hrow]
  simp [Builtin.zeroCells,Value.cells]
  omega
 clear hG hrow
 obtain ⟨W1,hW1⟩:∃ W1,W1=w.drew.alloc (.cells row 38):=⟨_,rfl⟩
 have hb1:W1.heap[w.heap.size]? = some (.cells row 38 (0,0)):=by rw [hW1];exact yz (w:=w.drew) _
 have hcell:∀ x j,x<w.heap.size→W1.cell? ⟨x,j,none⟩=w.cell? ⟨x,j,none⟩:=fun x j hx=>by
  rw [hW1];exact World.cell?_alloc_past (w:=w.drew) _ x j hx
 rw [←hW1] at hrz
 have lA:0+vs.length≤row.size:=by
  have:=Nat.mul_le_mul_right 2 hGn
  omega
 have hcpA:∀ (W:World),W.heap=W1.heap→∀ ty dc,(Builtin.copy_ #[31,31] ty #[.slice (some ⟨w.heap.size,0,none⟩) (n+1) dc,.slice (some ⟨vb,vo,none⟩) 1 vc]).run Tryz.prog W = .ok (goInt (1:Nat)) (W.setRow w.heap.size (lay row 0 vs)):=fun W hW ty dc =>
  y8 W w.heap.size 0 (n+1) dc ⟨vb,vo,none⟩ 1 vc 1 row 38 vs Tryz.underlying31 hsS (by rw [hW];exact hb1) (by simp only [Nat.min_def];split <;> omega) (by omega)
   (fun j v hj=>by
     have h1:=hvs j v hj
     rw [←hcell vb _ vlt] at h1
     simpa [y0,World.cell?,hW] using h1) lA ov
 obtain ⟨r1,hr1⟩:∃ r1,r1=lay row 0 vs:=⟨_,rfl⟩
 have s1:r1.size=row.size:=by rw [hr1];exact wg lA
 rw [←hr1] at hcpA
 have hb2:(W1.setRow w.heap.size r1).heap[w.heap.size]? = some (.cells r1 38 (0,0)):=zw hb1
 have lB:2+cs.length≤r1.size:=by
  have:=Nat.mul_le_mul_right 2 hGn
  omega
 have hcpB:∀ (W:World),W.heap=(W1.setRow w.heap.size r1).heap→∀ ty dc sc,(Builtin.copy_ #[31,31] ty #[.slice (some ⟨w.heap.size,2,none⟩) n dc,.slice (some ⟨b,o,none⟩) n sc]).run Tryz.prog W = .ok (goInt (n:Nat)) (W.setRow w.heap.size (lay r1 2 cs)):=fun W hW ty dc sc =>
  y8 W w.heap.size 2 n dc ⟨b,o,none⟩ n sc n r1 38 cs Tryz.underlying31 hsS (by rw [hW];exact hb2) (by simp only [Nat.min_def];split <;> omega) lc
   (fun j v hj=>by
     have h1:=hcs j v hj
     rw [←hcell b _ hlt] at h1
     simpa [y0,World.cell?,hW,ya (w:=W1) r1 (Nat.ne_of_lt hlt)] using h1) lB oc
 have ht1:(1:Int).toNat=1:=rfl
 have hb1':(1:Int)≤(n:Int)+1:=by omega
 have hb2':(0:Int)≤(n:Int)+1:=by omega
 have hc1':¬ (G=1):=by omega
 have hc2':¬ (G=0):=by omega
 subst hW1
 subst hr1
 have hcpD:=hcpA ((w.alloc (.cells row 38)).drew) rfl
 go_enter Tryz.func137,Tryz.ntmps137
 go_wp2_with (at_builtin;refine Lib.wpList_append_run _ rfl _ _ _ _ rfl _ _ rfl rfl _ _ (hrz _) ?_)
 have hcpC:=hcpB (((w.alloc (.cells row 38)).drew.setRow w.heap.size (lay row 0 vs)).drew) rfl 3 (G - 1) n
 go_region_law_o (refine step_copy_runI rfl _ _ 31 31 rfl (.slice (some ⟨w.heap.size,2,none⟩) n (G - 1)) (.slice (some ⟨b,o,none⟩) n n) (by simp [Act.eval,Act.put]) (by simp [Act.eval,Act.put]) hcpC ?_)
 go_wp2
 go_ret
 refine ⟨G,row,hGn,hrs,rfl,rfl,rfl,rfl,?_⟩
 exact um w row _ _ _
theorem holdsS:InsHolds Tryz.prog 137 31 38 2 32 [.int .i64 0,.nils] where
 ent:=⟨_,Tryz.func137,by decide,rfl⟩
 und:=Tryz.underlying31
 sz:=by
  obtain ⟨i0,hi0,hz0,hzs,hzb⟩:=info_parts z0p
  unfold tsz;rw [hi0];simp [hzs]
 zero:=by
  obtain ⟨i0,hi0,hz0,hzs,hzb⟩:=info_parts z0p
  unfold tzero;rw [hi0];simp [hz0,Value.cells,AV.ofCell]
 zl:=rfl
 inf:=by
  obtain ⟨i0,hi0,hz0,hzs,hzb⟩:=info_parts z0p
  exact ⟨i0,hi0,hzb,by omega⟩
 onto:=ze4
 shift:=zbz
 grow:=zdy
end Go.Am.Ins
namespace Go.Am
open Go.Proofs Go.Sort
theorem WeakE.frzArr {e:Env} {σ:Store} {Q:Env→Store→Prop} (g i j:Nat) {id esz off len e2:Nat} {cs es:List (List AV)} {c:List AV} (hg:σ g=some (.arr e2 es)) (hi:es[i]? = some c) (hj:c[j]? = some (.os id esz off len)) (hσ:σ id=some (.arr esz cs)) (hgi:¬ g=id) (hle:off+len≤cs.length)
 (h:WeakE e ((σ.del id).set g (.arr e2 (es.set i (c.set j (.sl esz ((cs.drop off).take len)))))) Q):WeakE e σ Q:=fun G w vs hs hv=>by
 obtain ⟨b,base,hb,ho⟩:=hs.used g _ hg
 obtain ⟨hi',hi2⟩:=List.getElem?_eq_some_iff.1 hi
 obtain ⟨hj',hj2⟩:=List.getElem?_eq_some_iff.1 hj
 subst hi2
 cases ho with
 | arr hh hsz hl hf hvv =>
   rename_i ccs ty
   have h0:=hvv i j hi' hj'
   rw [hj2] at h0
   obtain ⟨G',h1,h2,h3⟩:=xr hs hσ hle h0
   have hp':(σ.del id) g=some (.arr e2 es):=by rw [Store.del_ne _ hgi];exact hg
   have hmem:∀ x ∈ es.set i (es[i].set j (.sl esz ((cs.drop off).take len))),x ∈ es∨x=es[i].set j (.sl esz ((cs.drop off).take len)):=fun x hx=>List.mem_or_eq_of_mem_set hx
   obtain ⟨h4,h5⟩:=h2.obj (o' := .arr e2 (es.set i (es[i].set j (.sl esz ((cs.drop off).take len))))) hp' (fun b' base' hb' ho'=>by
    have e1:=h1.ρ _ _ hb
    rw [hb'] at e1;cases e1
    refine .arr hh (by rw [List.length_set];exact hsz) (fun x hx => ?_) (fun x hx c hcx => ?_) (fun a d hA hB => ?_)
    ·rcases hmem x hx with h | rfl
     ·exact hl x h
     ·rw [List.length_set];exact hl _ (List.getElem_mem hi')
    ·rcases hmem x hx with h | rfl
     ·exact hf x h c hcx
     ·rcases List.mem_or_eq_of_mem_set hcx with h | rfl
      ·exact hf _ (List.getElem_mem hi') c h
      ·rfl
    ·have hA':a<es.length:=by simpa using hA
     by_cases hai:a=i
     ·subst hai
      simp only [List.getElem_set_self] at hB ⊢
      by_cases hbj:d=j
      ·subst hbj
       simp only [List.getElem_set_self];exact h3
      ·rw [List.getElem_set_ne (fun e=>hbj e.symm)]
       exact h1.vrel hs (hvv a d hA' (by simpa using hB))
     ·simp only [List.getElem_set_ne (fun e=>hai e.symm)] at hB ⊢
      exact h1.vrel hs (hvv a d hA' hB))
   obtain ⟨G2,e2',σ2,g1,g2,g3,g4⟩:=h G' w vs h4 (fun u v hu=>by
    obtain ⟨y,hy,hyr⟩:=hv u v hu;exact ⟨y,hy,h1.vrel hs hyr⟩)
   exact ⟨G2,e2',σ2,(h1.trans h5).trans g1,g2,g3,g4⟩
theorem z4d {e:Env} {Q:Env→Store→Prop} {g:Nat} {τ:Store}:∀ (p:List Seg) (gs:List Nat) (pre:List (List AV)) (s:Store),gs.length=p.length→gs.Nodup→(∀ x ∈ gs,τ x=none)→g ∉ gs→τ g=none→Store.sub τ s →
 (∀ i (h:i<p.length) (h':i<gs.length),s gs[i]=some (.arr 1 (p[i].ls.map cU)))→s g=some (.arr 2 (pre++List.zipWith segO p gs))→(∀ s',Store.sub τ s'→s' g=some (.arr 2 (pre++p.map Seg.c))→WeakE e s' Q)→WeakE e s Q
 | [],[],pre,s,_,_,_,_,_,hs,_,hg,h=>h s hs hg
 | [],_::_,_,_,hl,_,_,_,_,_,_,_,_=>by simp at hl
 | _::_,[],_,_,hl,_,_,_,_,_,_,_,_=>by simp at hl
 | x::p,y::gs,pre,s,hl,hn,hτ,hgn,hτg,hs,hi,hg,h=>by
   have h0:=hi 0 (by simp) (by simp)
   simp only [List.getElem_cons_zero] at h0
   rw [List.nodup_cons] at hn
   have hgy:¬ g=y:=fun e=>hgn (by rw [e];simp)
   have hgt:g ∉ gs:=fun e=>hgn (by simp [e])
   refine WeakE.frzArr g pre.length 1 (c:=segO x y) hg (by simp) rfl h0 hgy (by simp) ?_
   have hτy:=hτ y (by simp)
   refine z4d p gs (pre++[x.c]) _ (by simpa using hl) hn.2 (fun z hz=>hτ z (by simp [hz])) hgt hτg (za (sub_del hs hτy) hτg) (fun i hA hB => ?_) ?_ fun s' h1 h2=>h s' h1 (by rw [h2];simp)
   ·have h1:¬ gs[i]=g:=fun e=>hgt (by rw [←e];exact List.getElem_mem hB)
    have h2:¬ gs[i]=y:=fun e=>hn.1 (by rw [←e];exact List.getElem_mem hB)
    rw [Store.set_ne _ _ h1,Store.del_ne _ h2]
    have:=hi (i+1) (by simpa using hA) (by simpa using hB)
    simpa using this
   ·rw [Store.set_same]
    have ht:List.take x.ls.length (x.ls.map cU)=x.ls.map cU:=List.take_of_length_le (by simp)
    simp [segO,Seg.c,ht]
theorem WeakE.ownP {e:Env} {τ σ:Store} {Q:Env→Store→Prop} {p:List Seg} {v:AV} (ho:OwnP τ p v σ) (hs:Store.sub τ σ) (h:∀ σ',Store.sub τ σ'→Own 2 τ (p.map Seg.c) v σ'→WeakE e σ' Q):WeakE e σ Q:=by
 obtain ⟨gs,hl,hn,hg,hi,ho⟩:=ho
 rcases ho with ⟨h0,rfl⟩ | ⟨g,rfl,hgg,hh⟩
 ·have:p=[]:=by
   have:=congrArg List.length h0
   simp [hl] at this
   exact this
  subst this
  exact h σ hs .nil
 ·have hgi:g ∉ gs:=fun e=>by
   obtain ⟨i,hi',rfl⟩:=List.getElem_of_mem e
   rw [hi i (by omega) hi'] at hh;cases hh
  refine z4d p gs [] σ hl hn hg hgi hgg hs hi hh fun s' h1 h2=>h s' h1 (.inr ⟨g,by simp [hl],hgg,by simpa using h2⟩)
end Go.Am
namespace Go.Am
open Go.Proofs Go.Sort
theorem Weak.ofE {a:AV} {σ:Store} {Q:AV→Store→Prop} (h:WeakE [(0,a)] σ (fun e s=>∃ b,e.get 0=some b∧Q b s)):Weak a σ Q:=fun G w v hs hr=>by
 obtain ⟨G',e',σ',h1,h2,h3,b,h4,h5⟩:=h G w (fun t=>if t=0 then some v else none) hs (fun t x hx=>by
  simp only [Env.get] at hx
  split at hx
  ·rename_i ht;subst ht;cases hx;exact ⟨v,rfl,hr⟩
  ·cases hx)
 obtain ⟨x,hx,hr'⟩:=h3 0 b h4
 simp at hx;subst hx
 exact ⟨G',b,σ',h1,h2,hr',h5⟩
theorem WeakE.cellArr {e:Env} {σ:Store} {Q:Env→Store→Prop} (g i j:Nat) {a b:AV} {e2:Nat} {es:List (List AV)} {c:List AV} (hg:σ g=some (.arr e2 es)) (hi:es[i]? = some c) (hj:c[j]? = some a) (hab:∀ G w v,VRel G w a v→VRel G w b v) (hbf:b.flat=true)
 (h:WeakE e (σ.set g (.arr e2 (es.set i (c.set j b)))) Q):WeakE e σ Q:=fun G w vs hs hv=>by
 obtain ⟨hi',hi2⟩:=List.getElem?_eq_some_iff.1 hi
 obtain ⟨hj',hj2⟩:=List.getElem?_eq_some_iff.1 hj
 subst hi2
 obtain ⟨h4,h5⟩:=hs.obj (o' := .arr e2 (es.set i (es[i].set j b))) hg (fun b' base' hb' ho'=>by
  cases ho' with
  | arr hh hsz hl hf hvv =>
    refine .arr hh (by rw [List.length_set];exact hsz) (fun x hx => ?_) (fun x hx c hcx => ?_) (fun a d hA hB => ?_)
    ·rcases List.mem_or_eq_of_mem_set hx with h | rfl
     ·exact hl x h
     ·rw [List.length_set];exact hl _ (List.getElem_mem hi')
    ·rcases List.mem_or_eq_of_mem_set hx with h | rfl
     ·exact hf x h c hcx
     ·rcases List.mem_or_eq_of_mem_set hcx with h | rfl
      ·exact hf _ (List.getElem_mem hi') c h
      ·exact hbf
    ·have hA':a<es.length:=by simpa using hA
     by_cases hai:a=i
     ·subst hai
      simp only [List.getElem_set_self] at hB ⊢
      by_cases hbj:d=j
      ·subst hbj
       simp only [List.getElem_set_self]
       have:=hvv a d hA' hj'
       rw [hj2] at this
       exact hab _ _ _ this
      ·rw [List.getElem_set_ne (fun e=>hbj e.symm)]
       exact hvv a d hA' (by simpa using hB)
     ·simp only [List.getElem_set_ne (fun e=>hai e.symm)] at hB ⊢
      exact hvv a d hA' hB)
 obtain ⟨G2,e2',σ2,g1,g2,g3,g4⟩:=h G w vs h4 hv
 exact ⟨G2,e2',σ2,h5.trans g1,g2,g3,g4⟩
theorem WeakE.ownArr {e:Env} {τ σ:Store} {Q:Env→Store→Prop} (g i j:Nat) {u:AV} {e2:Nat} {L es:List (List AV)} {c:List AV} (hg:σ g=some (.arr e2 es)) (hi:es[i]? = some c) (hj:c[j]? = some u) (ho:Own 1 τ L u σ) (hs:Store.sub τ σ) (hτ:τ g=none) (hne:¬ e2=1)
 (h:∀ σ',Store.sub τ σ'→σ' g=some (.arr e2 (es.set i (c.set j (.sl 1 L))))→(∀ y o,σ y=some o→¬ y=g→(∀ n,u ≠ .os y 1 0 n)→σ' y=some o)→WeakE e σ' Q):WeakE e σ Q:=by
 rcases ho with ⟨rfl,rfl⟩ | ⟨k,rfl,h2,h3⟩
 ·refine .cellArr g i j hg hi hj (fun G w v h=>qn 1 G w v h) rfl (h _ (za hs hτ) (Store.set_same _ _ _) fun y o hy hn _=>by rw [Store.set_ne _ _ hn];exact hy)
 ·have hgk:¬ g=k:=fun e=>by
   subst e
   rw [hg] at h3
   simp only [Option.some.injEq,Obj.arr.injEq] at h3
   exact hne h3.1
  refine .frzArr g i j hg hi hj h3 hgk (by omega) ?_
  rw [List.drop_zero,List.take_length]
  refine h _ (za (sub_del hs h2) hτ) (Store.set_same _ _ _) fun y o hy hn hv => ?_
  rw [Store.set_ne _ _ hn,Store.del_ne _ (fun e=>hv _ (by rw [e]))];exact hy
theorem Own.cellH {esz:Nat} {τ s:Store} {L:List (List AV)} {v:AV} (h:Own esz τ L v s):v.cells=[v]∧v.isTup=false:=by
 rcases h with ⟨_,rfl⟩ | ⟨g,rfl,_⟩ <;> exact ⟨rfl,rfl⟩
def HO (σ:Store) (p:List Seg) (v:AV) (s:Store):Prop :=
 (p=[]∧v = .nils)∨∃ x r u g,p=x::r∧v = .os g 2 0 (r.length+1)∧σ g=none∧s g=some (.arr 2 ([.int .i64 x.kind,u]::r.map Seg.c))∧Own 1 σ (x.ls.map cU) u s
theorem HO.nil {σ s:Store}:HO σ [] .nils s := .inl ⟨rfl,rfl⟩
theorem HO.mono {σ s s':Store} {p:List Seg} {v:AV} (h:HO σ p v s) (hs:Store.sub s s'):HO σ p v s':=by
 rcases h with h | ⟨x,r,u,g,h1,h2,h3,h4,h5⟩
 ·exact .inl h
 ·exact .inr ⟨x,r,u,g,h1,h2,h3,hs _ _ h4,h5.mono hs⟩
theorem HO.freeze {σ s:Store} {p:List Seg} {v:AV} {Q:AV→Store→Prop} (h:HO σ p v s) (hs:Store.sub σ s) (hq:Q (.sl 2 (p.map Seg.c)) σ):Weak v s Q:=by
 rcases h with ⟨rfl,rfl⟩ | ⟨x,r,u,g,rfl,rfl,h3,h4,h5⟩
 ·exact Weak.ofE (WeakE.nil 0 2 rfl (WeakE.forget hs (WeakE.pure ⟨_,rfl,hq⟩)))
 ·refine Weak.ofE (WeakE.ownArr g 0 1 h4 rfl rfl h5 hs h3 (by decide) fun σ' h6 h7 _ => ?_)
  refine WeakE.frz 0 rfl h7 (by simp) (WeakE.forget (sub_del h6 h3) (WeakE.pure ⟨_,rfl,?_⟩))
  have e:List.take (r.length+1) (List.drop 0 (([AV.int .i64 x.kind,u]::r.map Seg.c).set 0 ([AV.int .i64 x.kind,u].set 1 (.sl 1 (x.ls.map cU)))))=(x::r).map Seg.c:=by
   simp [Seg.c]
   exact List.take_of_length_le (by simp)
  rw [e];exact hq
theorem HO.app {bytes:Nat} {σ s:Store} {p:List Seg} {y:Seg} {v wv:AV} {K:AV→Store→Prop} (hs:Store.sub σ s) (ho:HO σ p v s) (hp:p≠[]) (hw:slc s 2 wv=some [y.c]) (hsz:(p.length+1)*bytes≤140737488355328)
 (h:∀ v' s',Store.sub σ s'→HO σ (p++[y]) v' s'→K v' s'):appwp 2 bytes v wv s K:=by
 rcases ho with ⟨rfl,_⟩ | ⟨x,r,u,g,rfl,rfl,h3,h4,h5⟩
 ·exact absurd rfl hp
 ·have hl:([AV.int .i64 x.kind,u]::r.map Seg.c).length=r.length+1:=by simp
  rw [←hl]
  refine yg (zq h4 rfl) hw (by rw [hl];simpa using hsz) fun j hj => ?_
  have hσj:σ j=none:=zm hs hj
  have hjg:∀ z,σ z≠none→z≠j:=fun z hz e=>hz (by rw [e];exact hσj)
  refine h _ _ (fun z q hz => ?_) (.inr ⟨x,r++[y],u,j,by simp,by simp,hσj,by rw [Store.set_same];simp,?_⟩)
  ·have h1:z≠j:=fun e=>by subst e;rw [hσj] at hz;cases hz
   have h2:z≠g:=fun e=>by subst e;rw [h3] at hz;cases hz
   rw [Store.set_ne _ _ h1,Store.del_ne _ h2];exact hs z q hz
  ·rcases h5 with h5 | ⟨k,k1,k2,k3⟩
   ·exact .inl h5
   ·refine .inr ⟨k,k1,k2,?_⟩
    have h1:k≠j:=fun e=>by subst e;rw [hj] at k3;cases k3
    have h2:k≠g:=fun e=>by subst e;rw [h4] at k3;simp at k3
    rw [Store.set_ne _ _ h1,Store.del_ne _ h2];exact k3
theorem zeb {σ:Store} (zs:List Int) (h:zs.length≤1000000000):ACalls Tryz.prog 172 [.sl 1 (zs.map cU)] σ (fun v s=>Store.sub σ s∧Own 1 σ (zs.map cU) v s):=by
 refine zk Tst.F172 (by simp [Tst.F172,Fn.mkX]) ?_
 simp only [Tst.F172,Fn.mkX,Tst.b172]
 simp only [↓vcPre,↓z0,↓reduceIte,vcPost,vcStd,Nat.reduceEqDiff,reduceCtorEq,Nat.reduceAdd,Nat.reduceLeDiff,Int.reduceLT,Int.reduceLE,↓u_setN]
 show nilqwp false (.sl 1 (zs.map cU)) _
 refine z3c fun b hb => ?_
 cases b with
 | true =>
   have hl:zs=[]:=by
    cases zs with
    | nil=>rfl
    | cons x r=>have:=hb (by simp);cases this
   subst hl
   simp only [↓vcPre,↓z0,↓reduceIte,vcPost,vcStd,Nat.reduceEqDiff,reduceCtorEq,Nat.reduceAdd,Nat.reduceLeDiff,Int.reduceLT,Int.reduceLE,↓u_setN]
   exact EndQ.to σ .nils rfl (Store.sub_refl _) ⟨Store.sub_refl _,.inl ⟨rfl,rfl⟩⟩
 | false =>
   simp only [↓vcPre,↓z0,↓reduceIte,vcPost,vcStd,Nat.reduceEqDiff,reduceCtorEq,Nat.reduceAdd,Nat.reduceLeDiff,Int.reduceLT,Int.reduceLE,↓u_setN]
   refine AllocQ.i0 fun i hi => ?_
   simp only [↓vcPre,↓z0,↓reduceIte,vcPost,vcStd,Nat.reduceEqDiff,reduceCtorEq,Nat.reduceAdd,Nat.reduceLeDiff,Int.reduceLT,Int.reduceLE,↓u_setN]
   refine yg (zq (Store.set_same _ _ _) rfl) (y := .sl 1 (zs.map cU)) yw (by simp;omega) fun j hj => ?_
   simp only [List.nil_append,List.length_nil,Nat.zero_add]
   have hσj:σ j=none:=by
    by_cases e:j=i
    ·subst e;exact hi
    ·rw [Store.set_ne _ _ e] at hj;exact hj
   have hs:Store.sub σ (((σ.set i (.arr 1 [])).del i).set j (.arr 1 (zs.map cU))):=fun z o hz=>by
    have h1:z≠j:=fun e=>by subst e;rw [hσj] at hz;cases hz
    have h2:z≠i:=fun e=>by subst e;rw [hi] at hz;cases hz
    rw [Store.set_ne _ _ h1,Store.del_ne _ h2,Store.set_ne _ _ h2];exact hz
   exact EndQ.to _ (.os j 1 0 (zs.map cU).length) rfl (Store.sub_refl _) ⟨hs,.inr ⟨j,rfl,hσj,Store.set_same _ _ _⟩⟩
theorem ze9 {σ:Store} (p:List Seg) (h:p.length≤1000000) (ho:∀ s ∈ p,s.ok):ACalls Tryz.prog 132 [.sl 2 (p.map Seg.c)] σ (fun v s=>Store.sub σ s∧HO σ p v s):=by
 refine zk Tst.F132 (by simp [Tst.F132,Fn.mkX]) ?_
 simp only [Tst.F132,Fn.mkX,Tst.b132]
 simp only [↓vcPre,↓z0,↓reduceIte,vcPost,vcStd,Nat.reduceEqDiff,reduceCtorEq,Nat.reduceAdd,Nat.reduceLeDiff,Int.reduceLT,Int.reduceLE,↓u_setN]
 refine LoopQ.inv (S:=Nat×AV×Store) (fun q=>[(3,q.2.1),(6,.sl 2 (p.map Seg.c)),(7,.int .i64 (p.length:Int)),(8,.int .i64 (q.1:Int))]) (fun q=>q.2.2)
  (fun q=>q.1≤p.length∧Store.sub σ q.2.2∧HO σ (p.take q.1) q.2.1 q.2.2) (fun q=>p.length+1 - q.1) (0,.nils,σ) rfl (Store.sub_refl _) ⟨by simp only;omega,Store.sub_refl _,.nil⟩ ?_
 rintro ⟨k,v,s⟩ ⟨hk,hs,ho'⟩
 simp only at hk hs ho'
 simp only [↓vcPre,↓z0,↓reduceIte,vcPost,vcStd,Nat.reduceEqDiff,reduceCtorEq,Nat.reduceAdd,Nat.reduceLeDiff,Int.reduceLT,Int.reduceLE,↓u_setN]
 refine ⟨fun c1 => ?_,fun c1 => ?_⟩
 ·have ek:IntKind.i64.wrap ((k:Int)+1)=((k+1:Nat):Int):=by rw [zd (by unfold I64;omega)];omega
  refine ⟨c1,by simp [Seg.c],?_⟩
  refine AllocQ.i0 fun i hi => ?_
  have hok:=ho _ (List.getElem_mem c1)
  unfold Seg.ok at hok
  simp only [Seg.c,Store.set_set,↓vcPre,↓z0,↓reduceIte,vcPost,vcStd,Nat.reduceEqDiff,reduceCtorEq,Nat.reduceAdd,Nat.reduceLeDiff,Int.reduceLT,Int.reduceLE,↓u_setN]
  cases k with
  | zero =>
    rcases ho' with ⟨_,rfl⟩ | ⟨x,r,u,g,h1,_⟩
    ·have hs1:=Store.sub_set s i (.box [AV.int .i64 p[0].kind,.sl 1 (p[0].ls.map cU)]) hi
     refine (zeb (σ:=s.set i (.box [AV.int .i64 p[0].kind,.sl 1 (p[0].ls.map cU)])) p[0].ls (by omega)).Q ?_
     rintro u s1 ⟨k1,k2⟩
     refine ⟨k1,?_⟩
     have k3:=k1 _ _ (Store.set_same s i (.box [AV.int .i64 p[0].kind,.sl 1 (p[0].ls.map cU)]))
     obtain ⟨hu1,hu2⟩:=k2.cellH
     have hu3:splice 0 [u] [AV.nils]=some [u]:=rfl
     simp only [k3,hu1,hu2,hu3,↓vcPre,↓z0,↓reduceIte,vcPost,vcStd,Nat.reduceEqDiff,reduceCtorEq,Nat.reduceAdd,Nat.reduceLeDiff,Int.reduceLT,Int.reduceLE,↓u_setN]
     refine AllocQ.i0 fun j hj => ?_
     simp only [↓vcPre,↓z0,↓reduceIte,vcPost,vcStd,Nat.reduceEqDiff,reduceCtorEq,Nat.reduceAdd,Nat.reduceLeDiff,Int.reduceLT,Int.reduceLE,↓u_setN]
     have sA:Store.sub s s1:=Store.sub_trans hs1 k1
     refine qk (zq (Store.set_same _ _ _) rfl) (by simp) (fun h0=>by cases h0) fun _ a ha => ?_
     rw [ek]
     have haj:¬ a=j:=fun e=>by subst e;rw [Store.set_same] at ha;cases ha
     have ha1:s1 a=none:=by rw [Store.set_ne _ _ haj] at ha;exact ha
     have hσa:=zm (Store.sub_trans hs sA) ha1
     have hσj:=zm (Store.sub_trans hs sA) hj
     refine NextQ.to (1,.os a 2 0 1,_) rfl (Store.sub_refl _) (by simp only;omega) ⟨by simp only;omega,za (za (Store.sub_trans hs sA) hσj) hσa,?_⟩
     simp only [List.take_add_one,List.getElem?_eq_getElem c1,Option.toList_some,List.take_zero,List.nil_append]
     refine .inr ⟨p[0],[],u,a,rfl,rfl,hσa,Store.set_same _ _ _,?_⟩
     exact (k2.weak (Store.sub_trans hs hs1)).mono (Store.sub_trans (Store.sub_set s1 j _ hj) (Store.sub_set _ a _ ha))
    ·simp at h1
  | succ k =>
    refine (zbh _ (by omega)).q' ?_
    simp only [Store.set_set,↓vcPre,↓z0,↓reduceIte,vcPost,vcStd,Nat.reduceEqDiff,reduceCtorEq,Nat.reduceAdd,Nat.reduceLeDiff,Int.reduceLT,Int.reduceLE,↓u_setN]
    refine AllocQ.i1 fun j hj1 hj2 hj => ?_
    simp only [↓vcPre,↓z0,↓reduceIte,vcPost,vcStd,Nat.reduceEqDiff,reduceCtorEq,Nat.reduceAdd,Nat.reduceLeDiff,Int.reduceLT,Int.reduceLE,↓u_setN]
    refine HO.app (σ:=σ) (y:=p[k+1]) (Store.sub_trans hs (zp hi hj hj1)) (ho'.mono (zp hi hj hj1)) (fun e => ?_) (zq (Store.set_same _ _ _) rfl) (by simp;omega) fun v' s' hs' ho'' => ?_
    ·have:=congrArg List.length e
     rw [List.length_take,Nat.min_eq_left (by omega)] at this
     simp at this
    rw [ek]
    refine NextQ.to (k+1+1,v',s') rfl (Store.sub_refl _) (by simp only;omega) ⟨by simp only;omega,hs',?_⟩
    simp only
    rw [List.take_succ_eq_append_getElem c1]
    exact ho''
 ·have hkl:p.take k=p:=List.take_of_length_le (by omega)
  rw [hkl] at ho'
  exact EndQ.to s v rfl (Store.sub_refl _) ⟨hs,ho'⟩
def preA1 (x:Int):List Seg→List Seg
 | []=>[⟨2,[x]⟩]
 | s::r=>if s.kind=2∧s.ls.length<255 then ⟨s.kind,x::s.ls⟩::r else ⟨2,[x]⟩::s::r
def preA (x:Int):Nat→List Seg→List Seg
 | 0,p=>p
 | n+1,p=>preA1 x (preA x n p)
theorem z65 (x:Int) (p:List Seg):(preA1 x p).length≤p.length+1:=by
 unfold preA1
 cases p with
 | nil=>simp
 | cons s r=>simp only;split <;> simp
theorem xn (x:Int) (n:Nat) (p:List Seg):(preA x n p).length≤p.length+n:=by
 induction n with
 | zero=>simp [preA]
 | succ n ih=>have:=z65 x (preA x n p);simp only [preA];omega
theorem z7x (x:Int) (p:List Seg) (h:∀ s ∈ p,s.ok):∀ s ∈ preA1 x p,s.ok:=by
 unfold preA1
 cases p with
 | nil=>intro s hs;simp at hs;subst hs;simp [Seg.ok]
 | cons y r =>
   simp only
   split
   ·rename_i hc
    intro s hs
    rcases List.mem_cons.1 hs with rfl | hs
    ·simp only [Seg.ok,List.length_cons];omega
    ·exact h s (by simp [hs])
   ·intro s hs
    rcases List.mem_cons.1 hs with rfl | hs
    ·simp [Seg.ok]
    ·exact h s hs
theorem ww (x:Int) (n:Nat) (p:List Seg) (h:∀ s ∈ p,s.ok):∀ s ∈ preA x n p,s.ok:=by
 induction n with
 | zero=>exact h
 | succ n ih=>exact z7x x _ ih
theorem z1d {σ s0 s:Store} {p:List Seg} {v:AV} {x:Int} {k1 k2:Nat} (ho:HO σ p v s0) (hs0:Store.sub σ s0) (hs:Store.sub s0 s) (h1:s0 k1=none) (h2:s0 k2=none) (e1:s k1=some (.arr 1 [cU x])) (e2:s k2=some (.arr 2 [[.int .i64 2,.os k1 1 0 1]]))
 (hl:p.length≤2000000):ACalls Tryz.prog 137 [v,.int .i64 0,.os k2 2 0 1] s (fun v' s'=>Store.sub σ s'∧HO σ (⟨2,[x]⟩::p) v' s'):=by
 have hσ1:=zm hs0 h1
 have hσs:=Store.sub_trans hs0 hs
 rcases ho with ⟨rfl,rfl⟩ | ⟨y,r,u,g,rfl,rfl,h3,h4,h5⟩
 ·refine v8 (L:=[]) Ins.holdsS e2 (.inl ⟨rfl,rfl⟩) (by simp) (fun id hid => ?_) (fun g hg=>by cases hg)
  have hσi:=zm hσs hid
  refine ⟨za hσs hσi,.inr ⟨⟨2,[x]⟩,[],.os k1 1 0 1,id,rfl,rfl,hσi,Store.set_same _ _ _,.inr ⟨k1,rfl,hσ1,?_⟩⟩⟩
  rw [Store.set_ne _ _ (fun e=>by subst e;rw [e1] at hid;cases hid)]
  exact e1
 ·have hl':([AV.int .i64 y.kind,u]::r.map Seg.c).length=r.length+1:=by simp
  have e4:=hs _ _ h4
  have hgk:¬ g=k2:=fun e=>by subst e;rw [h2] at h4;cases h4
  have h5':=h5.mono hs
  have key:∀ id,(s id=none∨id=g)→Weak (.os id 2 0 (([AV.int .i64 y.kind,u]::r.map Seg.c).length+1)) (s.set id (.arr 2 ([.int .i64 2,.os k1 1 0 1]::[AV.int .i64 y.kind,u]::r.map Seg.c))) (fun v' s'=>Store.sub σ s'∧HO σ (⟨2,[x]⟩::y::r) v' s'):=by
   intro id hid
   have hσi:σ id=none:=by
    rcases hid with h | rfl
    ·exact zm hσs h
    ·exact h3
   have hk1:¬ k1=id:=fun e=>by
    subst e
    rcases hid with h | rfl
    ·rw [e1] at h;cases h
    ·rw [e4] at e1;simp at e1
   have ho2:Own 1 σ (y.ls.map cU) u (s.set id (.arr 2 ([.int .i64 2,.os k1 1 0 1]::[AV.int .i64 y.kind,u]::r.map Seg.c))):=by
    rcases h5' with h | ⟨j,q1,q2,q3⟩
    ·exact .inl h
    ·refine .inr ⟨j,q1,q2,?_⟩
     rw [Store.set_ne _ _ (fun e => ?_)]
     ·exact q3
     ·subst e
      rcases hid with h | rfl
      ·rw [q3] at h;cases h
      ·rw [e4] at q3;simp at q3
   refine Weak.ofE (WeakE.ownArr id 1 1 (Store.set_same _ _ _) rfl rfl ho2 (za hσs hσi) hσi (by decide) fun σ' h6 h7 h8=>WeakE.pure ⟨_,rfl,h6,?_⟩)
   refine .inr ⟨⟨2,[x]⟩,y::r,.os k1 1 0 1,id,rfl,by simp,hσi,?_,.inr ⟨k1,rfl,hσ1,?_⟩⟩
   ·rw [h7];simp [Seg.c]
   ·refine h8 k1 _ (by rw [Store.set_ne _ _ hk1];exact e1) hk1 fun n e => ?_
    subst e
    rcases h5 with ⟨_,h⟩ | ⟨j,q1,q2,q3⟩
    ·cases h
    ·simp only [AV.os.injEq] at q1
     obtain ⟨rfl,_⟩:=q1
     rw [h1] at q3;cases q3
  rw [←hl']
  refine ACalls.weakRes (v8 (L:=[AV.int .i64 y.kind,u]::r.map Seg.c) (Q:=fun v s'=>Weak v s' (fun v' s'=>Store.sub σ s'∧HO σ (⟨2,[x]⟩::y::r) v' s')) Ins.holdsS e2 (.inr ⟨g,rfl,e4,hgk⟩) (by rw [hl'];simp at hl ⊢;omega) (fun id hid=>key id (.inl hid)) (fun g' hg' => ?_)) fun _ _ h=>h
  simp only [AV.os.injEq] at hg'
  obtain ⟨rfl,_⟩:=hg'
  exact key g (.inr rfl)
end Go.Am
namespace Go.Am.Ts19
open Go.Proofs Go.Am.B
def b85:BC:=z [k 6 .nils] [0,1,2] (z [m 9 0,g 10 146 [.t 9],m 7 10] [1,2,7] (.seq (z [j 8 0] [1,2,7,8] (.block 0 (.loop [1,2,7,8] (.seq (z [m 11 8,m 12 2,b 13 .lss 11 12,m 14 13,⟨some 15,some (14,true),.pure (.mov),[.t 8]⟩,⟨some 16,some (14,true),.pure (.bin .lss),[.t 15,.c (.int .i64 10)]⟩,⟨some 17,none,.pick,[.t 14,.t 16,.c (.bool false)]⟩] [1,2,7,8,17] (.cond (.t 17) .skip (.exit 0))) (.seq (.block 1 (z [m 20 7,u 21 .len 20,c 22 .gtr 21 0,m 23 22,⟨some 24,some (23,true),.pure (.mov),[.t 7]⟩,⟨some 25,some (23,true),.pure (.idx 2),[.t 24,.c (.int .i64 0)]⟩,⟨some 26,some (23,true),.pure (.fld 0),[.t 25]⟩,⟨some 27,some (23,true),.load (.ld 1 false),[.t 26]⟩,⟨some 28,some (23,true),.pure (.bin .eql),[.t 27,.c (.int .i64 2)]⟩,⟨some 29,none,.pick,[.t 23,.t 28,.c (.bool false)]⟩,m 30 29,⟨some 31,some (30,true),.pure (.mov),[.t 7]⟩,⟨some 32,some (30,true),.pure (.idx 2),[.t 31,.c (.int .i64 0)]⟩,⟨some 33,some (30,true),.pure (.fld 1),[.t 32]⟩,⟨some 34,some (30,true),.load (.ld 1 false),[.t 33]⟩,⟨some 35,some (30,true),.pure (.len),[.t 34]⟩,⟨some 36,some (30,true),.pure (.bin .lss),[.t 35,.c (.int .i64 255)]⟩,⟨some 37,none,.pick,[.t 30,.t 36,.c (.bool false)]⟩] [1,2,7,8,37] (.cond (.t 37) (.ops [m 38 7,m 39 1,⟨some 40,none,.alloc (.mksl 1 1),[.t 39]⟩,m 41 7,p 42 (.idx 2) [.t 41,.c (.int .i64 0)],f 43 1 42,l 44 1 43,⟨some 45,none,.loud (.app 1 4),[.t 40,.t 44]⟩,p 46 (.idx 2) [.t 38,.c (.int .i64 0)],f 47 1 46,s 1 47 45] [1,2,7,8]) (.ops [m 48 1,⟨some 49,none,.alloc (.mksl 1 1),[.t 48]⟩,p 50 (.build [(.int .i64 0),.nils] [(0,1),(1,1)]) [.c (.int .i64 2),.t 49],⟨some 51,none,.alloc (.mksl 2 1),[.t 50]⟩,m 52 7,⟨some 53,none,.loud (.app 2 32),[.t 51,.t 52]⟩,m 7 53] [1,2,7,8])))) (.wk 4 (.ops [m 18 8,c 19 .add 18 1,m 8 19] [1,2,7,8]))))))) (z [m 54 7,m 6 54] [6] .ret)))
def F85:Fn Tryz.prog 85:=Fn.mkW false [4] b85 [.t 6] 55 Tryz.f85 _ Tryz.func85 (by decide) rfl Tryz.ntmps85 (by kernel_rfl) (by kernel_rfl)
end Go.Am.Ts19
namespace Go.Am.Ts15
open Go.Proofs Go.Am.B
def b146:BC:=z [k 2 .nils] [0] (z [k 3 .nils] [0,3] (.seq (z [j 4 0] [0,3,4] (.block 0 (.loop [0,3,4] (.seq (z [m 5 4,m 6 0,u 7 .len 6,b 8 .lss 5 7] [0,3,4,8] (.cond (.t 8) .skip (.exit 0))) (.seq (.block 1 (z [m 11 3] [0,4,11] (z [m 12 0] [0,4,11,12] (z [m 13 4] [0,4,11,12,13] (z [x 14 2 12 13] [0,4,11,14] (z [f 15 0 14] [0,4,11,15] (z [m 18 0] [0,4,11,15,18] (z [m 19 4] [0,4,11,15,18,19] (z [x 20 2 18 19] [0,4,11,15,20] (z [f 21 1 20] [0,4,11,15,21] (z [l 22 1 21] [0,4,11,15,22] (.both (z [l 16 1 15] [0,4,11,16,22] (z [⟨some 17,none,.alloc (.mksl 1 0),[]⟩] [0,4,11,16,17,22] (z [⟨some 23,none,.loud (.app 1 4),[.t 17,.t 22]⟩] [0,4,11,16,23] (z [p 24 (.build [(.int .i64 0),.nils] [(0,1),(1,1)]) [.t 16,.t 23]] [0,4,11,24] (z [⟨some 25,none,.alloc (.mksl 2 1),[.t 24]⟩] [0,4,11,25] (z [⟨some 26,none,.loud (.app 2 32),[.t 11,.t 25]⟩] [0,4,26] (z [m 3 26] [0,3,4] (.ops [] [0,3,4])))))))) (.both (z [⟨some 17,none,.alloc (.mksl 1 0),[]⟩] [0,4,11,15,17,22] (.both (z [l 16 1 15] [0,4,11,16,17,22] (z [⟨some 23,none,.loud (.app 1 4),[.t 17,.t 22]⟩] [0,4,11,16,23] (z [p 24 (.build [(.int .i64 0),.nils] [(0,1),(1,1)]) [.t 16,.t 23]] [0,4,11,24] (z [⟨some 25,none,.alloc (.mksl 2 1),[.t 24]⟩] [0,4,11,25] (z [⟨some 26,none,.loud (.app 2 32),[.t 11,.t 25]⟩] [0,4,26] (z [m 3 26] [0,3,4] (.ops [] [0,3,4]))))))) (.both (z [⟨some 23,none,.loud (.app 1 4),[.t 17,.t 22]⟩] [0,4,11,15,23] (z [l 16 1 15] [0,4,11,16,23] (z [p 24 (.build [(.int .i64 0),.nils] [(0,1),(1,1)]) [.t 16,.t 23]] [0,4,11,24] (z [⟨some 25,none,.alloc (.mksl 2 1),[.t 24]⟩] [0,4,11,25] (z [⟨some 26,none,.loud (.app 2 32),[.t 11,.t 25]⟩] [0,4,26] (z [m 3 26] [0,3,4] (.ops [] [0,3,4]))))))) (.top)))) (.top)))))))))))))) (.ops [m 9 4,c 10 .add 9 1,m 4 10] [0,3,4])))))) (.seq (.wk 6 (.ops [m 27 3,m 2 27] [2])) .ret)))
def F146:Fn Tryz.prog 146:=Fn.mkW false [6] b146 [.t 2] 28 Tryz.f146 _ Tryz.func146 (by decide) rfl Tryz.ntmps146 (by kernel_rfl) (by kernel_rfl)
end Go.Am.Ts15
namespace Go.Am
open Go.Proofs Go.Sort
theorem zea (p:List Seg) (h:p.length≤1000000) (ho:∀ s ∈ p,s.ok) (σ:Store):ACalls Tryz.prog 146 [.sl 2 (p.map Seg.c)] σ (fun v s=>Store.sub σ s∧Own 2 σ (p.map Seg.c) v s):=by
 refine zk Ts15.F146 (by simp [Ts15.F146,Fn.mkW]) ?_
 simp only [Ts15.F146,Fn.mkW,Ts15.b146]
 simp only [↓vcPre,↓z0,↓reduceIte,vcPost,vcStd,Nat.reduceEqDiff,reduceCtorEq,Nat.reduceAdd,Nat.reduceLeDiff,Int.reduceLT,Int.reduceLE,↓u_setN]
 refine LoopQ.inv (S:=Nat×AV×Store) (fun q=>[(0,.sl 2 (p.map Seg.c)),(3,q.2.1),(4,.int .i64 (q.1:Int))]) (fun q=>q.2.2)
  (fun q=>q.1≤p.length∧Store.sub σ q.2.2∧OwnP σ (p.take q.1) q.2.1 q.2.2) (fun q=>p.length+1 - q.1) (0,.nils,σ) rfl (Store.sub_refl _) ⟨by simp only;omega,Store.sub_refl _,OwnP.nil⟩ ?_
 rintro ⟨k,v,s⟩ ⟨hk,hs,ho'⟩
 simp only at hk hs ho'
 simp only [↓vcPre,↓z0,↓reduceIte,vcPost,vcStd,Nat.reduceEqDiff,reduceCtorEq,Nat.reduceAdd,Nat.reduceLeDiff,Int.reduceLT,Int.reduceLE,↓u_setN]
 refine ⟨fun c1 => ?_,fun c1 => ?_⟩
 ·have ek:IntKind.i64.wrap ((k:Int)+1)=((k+1:Nat):Int):=by rw [zd (by unfold I64;omega)];omega
  have hx:=ho _ (List.getElem_mem c1)
  unfold Seg.ok at hx
  refine ⟨c1,c1,by simp [Seg.c],?_⟩
  simp only [Seg.c,↓vcPre,↓z0,↓reduceIte,vcPost,vcStd,Nat.reduceEqDiff,reduceCtorEq,Nat.reduceAdd,Nat.reduceLeDiff,Int.reduceLT,Int.reduceLE,↓u_setN]
  have hroom:(([]:List (List AV)).length+(p[k].ls.map cU).length)*4≤140737488355328:=by simp;omega
  refine ⟨?_,?_⟩
  ·refine AllocQ.i0 fun i hi => ?_
   simp only [↓vcPre,↓z0,↓reduceIte,vcPost,vcStd,Nat.reduceEqDiff,reduceCtorEq,Nat.reduceAdd,Nat.reduceLeDiff,Int.reduceLT,Int.reduceLE,↓u_setN]
   refine yg (zq (Store.set_same _ _ _) rfl) yw hroom fun j hj => ?_
   simp only [↓vcPre,↓z0,↓reduceIte,vcPost,vcStd,Nat.reduceEqDiff,reduceCtorEq,Nat.reduceAdd,Nat.reduceLeDiff,Int.reduceLT,Int.reduceLE,↓u_setN]
   have hji:j≠i:=fun e=>by subst e;rw [Store.set_same] at hj;cases hj
   have hj0:s j=none:=by rw [Store.set_ne _ _ hji] at hj;exact hj
   have hsub:Store.sub s (((s.set i (Obj.arr 1 [])).del i).set j (Obj.arr 1 (List.map cU p[k].ls))):=fun y o hy=>by
    have h1:y≠i:=fun e=>by subst e;rw [hi] at hy;cases hy
    have h2:y≠j:=fun e=>by subst e;rw [hj0] at hy;cases hy
    rw [Store.set_ne _ _ h2,Store.del_ne _ h1,Store.set_ne _ _ h1];exact hy
   have hjs:(((s.set i (Obj.arr 1 [])).del i).set j (Obj.arr 1 (List.map cU p[k].ls))) j=some (.arr 1 (p[k].ls.map cU)):=Store.set_same _ _ _
   refine AllocQ.i0 fun b hb => ?_
   simp only [Nat.zero_add,↓vcPre,↓z0,↓reduceIte,vcPost,vcStd,Nat.reduceEqDiff,reduceCtorEq,Nat.reduceAdd,Nat.reduceLeDiff,Int.reduceLT,Int.reduceLE,↓u_setN]
   refine OwnP.app (τ:=σ) (s0:=s) (x:=p[k]) (j:=j) hs (Store.sub_trans hsub (Store.sub_set _ b _ hb)) ho' (Store.sub_set _ b _ hb _ _ hjs) hj0 (zq (Store.set_same _ _ _) rfl) (by simp;omega) fun v' s' hs' ho'' => ?_
   rw [ek]
   refine NextQ.to (k+1,v',s') rfl (Store.sub_refl _) (by simp only;omega) ⟨by simp only;omega,hs',?_⟩
   simp only [List.take_add_one,List.getElem?_eq_getElem c1,Option.toList_some]
   exact ho''
  ·refine AllocQ.i0 fun i hi => ?_
   simp only [↓vcPre,↓z0,↓reduceIte,vcPost,vcStd,Nat.reduceEqDiff,reduceCtorEq,Nat.reduceAdd,Nat.reduceLeDiff,Int.reduceLT,Int.reduceLE,↓u_setN]
   refine ⟨⟨by simp [Seg.c],?_⟩,?_⟩
   ·simp only [Seg.c,↓vcPre,↓z0,↓reduceIte,vcPost,vcStd,Nat.reduceEqDiff,reduceCtorEq,Nat.reduceAdd,Nat.reduceLeDiff,Int.reduceLT,Int.reduceLE,↓u_setN]
    refine yg (zq (Store.set_same _ _ _) rfl) yw hroom fun j hj => ?_
    simp only [↓vcPre,↓z0,↓reduceIte,vcPost,vcStd,Nat.reduceEqDiff,reduceCtorEq,Nat.reduceAdd,Nat.reduceLeDiff,Int.reduceLT,Int.reduceLE,↓u_setN]
    have hji:j≠i:=fun e=>by subst e;rw [Store.set_same] at hj;cases hj
    have hj0:s j=none:=by rw [Store.set_ne _ _ hji] at hj;exact hj
    have hsub:Store.sub s (((s.set i (Obj.arr 1 [])).del i).set j (Obj.arr 1 (List.map cU p[k].ls))):=fun y o hy=>by
     have h1:y≠i:=fun e=>by subst e;rw [hi] at hy;cases hy
     have h2:y≠j:=fun e=>by subst e;rw [hj0] at hy;cases hy
     rw [Store.set_ne _ _ h2,Store.del_ne _ h1,Store.set_ne _ _ h1];exact hy
    have hjs:(((s.set i (Obj.arr 1 [])).del i).set j (Obj.arr 1 (List.map cU p[k].ls))) j=some (.arr 1 (p[k].ls.map cU)):=Store.set_same _ _ _
    refine AllocQ.i0 fun b hb => ?_
    simp only [Nat.zero_add,↓vcPre,↓z0,↓reduceIte,vcPost,vcStd,Nat.reduceEqDiff,reduceCtorEq,Nat.reduceAdd,Nat.reduceLeDiff,Int.reduceLT,Int.reduceLE,↓u_setN]
    refine OwnP.app (τ:=σ) (s0:=s) (x:=p[k]) (j:=j) hs (Store.sub_trans hsub (Store.sub_set _ b _ hb)) ho' (Store.sub_set _ b _ hb _ _ hjs) hj0 (zq (Store.set_same _ _ _) rfl) (by simp;omega) fun v' s' hs' ho'' => ?_
    rw [ek]
    refine NextQ.to (k+1,v',s') rfl (Store.sub_refl _) (by simp only;omega) ⟨by simp only;omega,hs',?_⟩
    simp only [List.take_add_one,List.getElem?_eq_getElem c1,Option.toList_some]
    exact ho''
   ·refine yg (zq (Store.set_same _ _ _) rfl) yw hroom fun j hj => ?_
    refine ⟨by simp [Seg.c],?_⟩
    simp only [Seg.c,↓vcPre,↓z0,↓reduceIte,vcPost,vcStd,Nat.reduceEqDiff,reduceCtorEq,Nat.reduceAdd,Nat.reduceLeDiff,Int.reduceLT,Int.reduceLE,↓u_setN]
    have hji:j≠i:=fun e=>by subst e;rw [Store.set_same] at hj;cases hj
    have hj0:s j=none:=by rw [Store.set_ne _ _ hji] at hj;exact hj
    have hsub:Store.sub s (((s.set i (Obj.arr 1 [])).del i).set j (Obj.arr 1 (List.map cU p[k].ls))):=fun y o hy=>by
     have h1:y≠i:=fun e=>by subst e;rw [hi] at hy;cases hy
     have h2:y≠j:=fun e=>by subst e;rw [hj0] at hy;cases hy
     rw [Store.set_ne _ _ h2,Store.del_ne _ h1,Store.set_ne _ _ h1];exact hy
    have hjs:(((s.set i (Obj.arr 1 [])).del i).set j (Obj.arr 1 (List.map cU p[k].ls))) j=some (.arr 1 (p[k].ls.map cU)):=Store.set_same _ _ _
    refine AllocQ.i0 fun b hb => ?_
    simp only [Nat.zero_add,↓vcPre,↓z0,↓reduceIte,vcPost,vcStd,Nat.reduceEqDiff,reduceCtorEq,Nat.reduceAdd,Nat.reduceLeDiff,Int.reduceLT,Int.reduceLE,↓u_setN]
    refine OwnP.app (τ:=σ) (s0:=s) (x:=p[k]) (j:=j) hs (Store.sub_trans hsub (Store.sub_set _ b _ hb)) ho' (Store.sub_set _ b _ hb _ _ hjs) hj0 (zq (Store.set_same _ _ _) rfl) (by simp;omega) fun v' s' hs' ho'' => ?_
    rw [ek]
    refine NextQ.to (k+1,v',s') rfl (Store.sub_refl _) (by simp only;omega) ⟨by simp only;omega,hs',?_⟩
    simp only [List.take_add_one,List.getElem?_eq_getElem c1,Option.toList_some]
    exact ho''
 ·have hkl:p.take k=p:=List.take_of_length_le (by omega)
  rw [hkl] at ho'
  refine WkQ.of (WeakE.ownP ho' hs fun σ' h1 h2=>WeakE.pure ?_)
  simp only [↓vcPre,↓z0,↓reduceIte,vcPost,vcStd,Nat.reduceEqDiff,reduceCtorEq,Nat.reduceAdd,Nat.reduceLeDiff,Int.reduceLT,Int.reduceLE,↓u_setN]
  exact EndQ.to σ' v rfl (Store.sub_refl _) ⟨h1,h2⟩
end Go.Am
namespace Go.Am
open Go.Proofs Go.Sort
def preN (n:Int):Nat:=(min (max n 0) 10).toNat
set_option maxHeartbeats 1000000 in
theorem zbl (p:List Seg) (h:p.length≤1000000) (ho:∀ s ∈ p,s.ok) (x n:Int):Pur Tryz.prog 76 [.sl 2 (p.map Seg.c),.int .u32 x,.int .i64 n] (.sl 2 ((preA x (preN n) p).map Seg.c)):=by
 intro σ
 refine zk Tst.F76 (by simp [Tst.F76,Fn.mkX]) ?_
 simp only [Tst.F76,Fn.mkX,Tst.b76]
 simp only [↓vcPre,↓z0,↓reduceIte,vcPost,vcStd,Nat.reduceEqDiff,reduceCtorEq,Nat.reduceAdd,Nat.reduceLeDiff,Int.reduceLT,Int.reduceLE,↓u_setN]
 refine (ze9 (σ:=σ) p h ho).Q ?_
 rintro v0 s0 ⟨hs0,ho0⟩
 simp only [↓vcPre,↓z0,↓reduceIte,vcPost,vcStd,Nat.reduceEqDiff,reduceCtorEq,Nat.reduceAdd,Nat.reduceLeDiff,Int.reduceLT,Int.reduceLE,↓u_setN]
 have em:(if 10<(if 0>n then (0:Int) else n) then (10:Int) else (if 0>n then 0 else n))=(preN n:Int):=by
  unfold preN;split <;> (try split) <;> omega
 rw [em]
 have hm:preN n≤10:=by unfold preN;omega
 generalize preN n=m at hm
 refine LoopQ.inv (S:=Nat×AV×Store) (fun q=>[(0,q.2.1),(1,.int .u32 x),(11,.int .i64 (m:Int)),(12,.int .i64 (q.1:Int))]) (fun q=>q.2.2)
  (fun q=>q.1≤m∧Store.sub σ q.2.2∧HO σ (preA x q.1 p) q.2.1 q.2.2) (fun q=>m+1 - q.1) (0,v0,s0) rfl (Store.sub_refl _) ⟨by simp only;omega,hs0,ho0⟩ ?_
 rintro ⟨k,v,s⟩ ⟨hk,hs,ho'⟩
 simp only at hk hs ho'
 simp only [↓vcPre,↓z0,↓reduceIte,vcPost,vcStd,Nat.reduceEqDiff,reduceCtorEq,Nat.reduceAdd,Nat.reduceLeDiff,Int.reduceLT,Int.reduceLE,↓u_setN]
 refine ⟨fun c1 => ?_,fun c1 => ?_⟩
 ·have ek:IntKind.i64.wrap ((k:Int)+1)=((k+1:Nat):Int):=by rw [zd (by unfold I64;omega)];omega
  have hpl:=xn x k p
  have hpo:=ww x k p ho
  have hstep:preA x (k+1) p=preA1 x (preA x k p):=rfl
  have c1':k<m:=by omega
  generalize preA x k p=P0 at ho' hpl hpo hstep
  rcases ho' with ⟨rfl,rfl⟩ | ⟨y,r,u,g,rfl,rfl,h3,h4,h5⟩
  ·simp only [↓vcPre,↓z0,↓reduceIte,vcPost,vcStd,Nat.reduceEqDiff,reduceCtorEq,Nat.reduceAdd,Nat.reduceLeDiff,Int.reduceLT,Int.reduceLE,↓u_setN]
   refine AllocQ.i0 fun k1 hk1 => ?_
   simp only [↓vcPre,↓z0,↓reduceIte,vcPost,vcStd,Nat.reduceEqDiff,reduceCtorEq,Nat.reduceAdd,Nat.reduceLeDiff,Int.reduceLT,Int.reduceLE,↓u_setN]
   refine AllocQ.i1 fun k2 n21 n12 hk2 => ?_
   simp only [↓vcPre,↓z0,↓reduceIte,vcPost,vcStd,Nat.reduceEqDiff,reduceCtorEq,Nat.reduceAdd,Nat.reduceLeDiff,Int.reduceLT,Int.reduceLE,↓u_setN]
   refine (z1d (x:=x) (k1:=k1) (k2:=k2) (HO.nil (σ:=σ) (s:=s)) hs (zp hk1 hk2 n21) hk1 hk2 (by rw [Store.set_ne _ _ n12];exact Store.set_same _ _ _) (Store.set_same _ _ _) (by simp)).Q ?_
   rintro v' s' ⟨q1,q2⟩
   simp only [ek,↓vcPre,↓z0,↓reduceIte,vcPost,vcStd,Nat.reduceEqDiff,reduceCtorEq,Nat.reduceAdd,Nat.reduceLeDiff,Int.reduceLT,Int.reduceLE,↓u_setN]
   refine NextQ.to (k+1,v',s') rfl (Store.sub_refl _) (by simp only;omega) ⟨by simp only;omega,q1,?_⟩
   simp only
   rw [hstep];exact q2
  ·have eg:∀ h,([AV.int .i64 y.kind,u]::r.map Seg.c)[0+Int.toNat 0]'h=[AV.int .i64 y.kind,u]:=fun _=>rfl
   have hlu:pv .len [u]=some (.int .i64 (y.ls.length:Int)):=by
    rcases h5 with ⟨q1,rfl⟩ | ⟨j,rfl,_⟩
    ·have:y.ls=[]:=by simpa using q1
     rw [this];rfl
    ·simp [pv,pLen]
   simp only [h4,eg,hlu,↓vcPre,↓z0,↓reduceIte,vcPost,vcStd,Nat.reduceEqDiff,reduceCtorEq,Nat.reduceAdd,Nat.reduceLeDiff,Int.reduceLT,Int.reduceLE,↓u_setN]
   refine ⟨fun _=>⟨by omega,by simp,fun c2=>⟨by omega,by simp,fun c3=>⟨by omega,by simp,?_⟩,fun c3 => ?_⟩,fun c2 => ?_⟩,fun c=>absurd (by omega) c⟩
   ·refine AllocQ.i0 fun h1 hh1 => ?_
    simp only [↓vcPre,↓z0,↓reduceIte,vcPost,vcStd,Nat.reduceEqDiff,reduceCtorEq,Nat.reduceAdd,Nat.reduceLeDiff,Int.reduceLT,Int.reduceLE,↓u_setN]
    have hgh:¬ g=h1:=fun e=>by subst e;rw [h4] at hh1;cases hh1
    have hsh:=Store.sub_set s h1 (.arr 1 [[.int .u32 x]]) hh1
    have hl1:y.ls.length=(y.ls.map cU).length:=by simp
    have hS:(u = .nils∧y.ls.map cU=[])∨∃ j,u = .os j 1 0 (y.ls.map cU).length∧(s.set h1 (.arr 1 [[.int .u32 x]])) j=some (.arr 1 (y.ls.map cU))∧j≠h1:=by
     rcases h5 with ⟨q1,rfl⟩ | ⟨j,rfl,q2,q3⟩
     ·exact .inl ⟨rfl,q1⟩
     ·exact .inr ⟨j,rfl,hsh _ _ q3,fun e=>by subst e;rw [hh1] at q3;cases q3⟩
    have e4:=hsh _ _ h4
    have fin:∀ id s2,(∀ z o,(s.set h1 (.arr 1 [[.int .u32 x]])) z=some o→¬ z=id→s2 z=some o)→σ id=none→s2 id=some (.arr 1 ([.int .u32 x]::y.ls.map cU))→¬ g=id→s2 g=some (.arr 2 ([AV.int .i64 y.kind,u]::r.map Seg.c))∧Store.sub σ s2:=by
     intro id s2 q1 q2 q3 q4
     refine ⟨q1 _ _ e4 q4,fun z o hz=>q1 z o (hsh _ _ (hs _ _ hz)) fun e=>by subst e;rw [q2] at hz;cases hz⟩
    refine (v8 (Q:=fun v' s'=>∃ id,v' = .os id 1 0 (y.ls.length+1)∧σ id=none∧s' id=some (.arr 1 ([.int .u32 x]::y.ls.map cU))∧s' g=some (.arr 2 ([AV.int .i64 y.kind,u]::r.map Seg.c))∧Store.sub σ s'∧¬ g=id) Ins.holdsU (Store.set_same _ _ _) hS (by rw [←hl1];omega) (fun id hid => ?_) (fun j hj => ?_)).Q ?_
    ·have hσi:=zm (Store.sub_trans hs hsh) hid
     have hgi:¬ g=id:=fun e=>by subst e;rw [e4] at hid;cases hid
     obtain ⟨f1,f2⟩:=fin id ((s.set h1 (.arr 1 [[.int .u32 x]])).set id (.arr 1 ([.int .u32 x]::y.ls.map cU))) (fun z o hz hn=>by rw [Store.set_ne _ _ hn];exact hz) hσi (Store.set_same _ _ _) hgi
     exact ⟨id,by rw [hl1],hσi,Store.set_same _ _ _,f1,f2,hgi⟩
    ·rcases h5 with ⟨q1,rfl⟩ | ⟨j',rfl,q2,q3⟩
     ·cases hj
     ·simp only [AV.os.injEq] at hj
      obtain ⟨rfl,_⟩:=hj
      have hgi:¬ g=j':=fun e=>by subst e;rw [h4] at q3;simp at q3
      obtain ⟨f1,f2⟩:=fin j' ((s.set h1 (.arr 1 [[.int .u32 x]])).set j' (.arr 1 ([.int .u32 x]::y.ls.map cU))) (fun z o hz hn=>by rw [Store.set_ne _ _ hn];exact hz) q2 (Store.set_same _ _ _) hgi
      exact ⟨j',by rw [hl1],q2,Store.set_same _ _ _,f1,f2,hgi⟩
    ·rintro v' s' ⟨id,rfl,q1,q2,q3,q4,q5⟩
     simp only [q3,eg,↓vcPre,↓z0,↓reduceIte,vcPost,vcStd,Nat.reduceEqDiff,reduceCtorEq,Nat.reduceAdd,Nat.reduceLeDiff,Int.reduceLT,Int.reduceLE,↓u_setN]
     rw [ek]
     refine ⟨by omega,by simp,NextQ.to (k+1,.os g 2 0 (r.length+1),s'.set g (.arr 2 (([AV.int .i64 y.kind,u]::r.map Seg.c).set (0+Int.toNat 0) [.int .i64 y.kind,.os id 1 0 (y.ls.length+1)]))) rfl (Store.sub_refl _) (by simp only;omega) ⟨by simp only;omega,za q4 h3,?_⟩⟩
     simp only
     rw [hstep]
     simp only [preA1]
     rw [if_pos ⟨c2,by omega⟩]
     refine .inr ⟨⟨y.kind,x::y.ls⟩,r,.os id 1 0 (y.ls.length+1),g,rfl,rfl,h3,?_,.inr ⟨id,by simp,q1,?_⟩⟩
     ·rw [Store.set_same];rfl
     ·rw [Store.set_ne _ _ (fun e=>q5 e.symm)];simpa [cU] using q2
   ·refine AllocQ.i0 fun k1 hk1 => ?_
    simp only [↓vcPre,↓z0,↓reduceIte,vcPost,vcStd,Nat.reduceEqDiff,reduceCtorEq,Nat.reduceAdd,Nat.reduceLeDiff,Int.reduceLT,Int.reduceLE,↓u_setN]
    refine AllocQ.i1 fun k2 n21 n12 hk2 => ?_
    simp only [↓vcPre,↓z0,↓reduceIte,vcPost,vcStd,Nat.reduceEqDiff,reduceCtorEq,Nat.reduceAdd,Nat.reduceLeDiff,Int.reduceLT,Int.reduceLE,↓u_setN]
    refine (z1d (x:=x) (k1:=k1) (k2:=k2) (.inr ⟨y,r,u,g,rfl,rfl,h3,h4,h5⟩) hs (zp hk1 hk2 n21) hk1 hk2 (by rw [Store.set_ne _ _ n12];exact Store.set_same _ _ _) (Store.set_same _ _ _) (by omega)).Q ?_
    rintro v' s' ⟨q1,q2⟩
    simp only [ek,↓vcPre,↓z0,↓reduceIte,vcPost,vcStd,Nat.reduceEqDiff,reduceCtorEq,Nat.reduceAdd,Nat.reduceLeDiff,Int.reduceLT,Int.reduceLE,↓u_setN]
    refine NextQ.to (k+1,v',s') rfl (Store.sub_refl _) (by simp only;omega) ⟨by simp only;omega,q1,?_⟩
    simp only
    rw [hstep]
    simp only [preA1]
    rw [if_neg (by omega)];exact q2
   ·refine AllocQ.i0 fun k1 hk1 => ?_
    simp only [↓vcPre,↓z0,↓reduceIte,vcPost,vcStd,Nat.reduceEqDiff,reduceCtorEq,Nat.reduceAdd,Nat.reduceLeDiff,Int.reduceLT,Int.reduceLE,↓u_setN]
    refine AllocQ.i1 fun k2 n21 n12 hk2 => ?_
    simp only [↓vcPre,↓z0,↓reduceIte,vcPost,vcStd,Nat.reduceEqDiff,reduceCtorEq,Nat.reduceAdd,Nat.reduceLeDiff,Int.reduceLT,Int.reduceLE,↓u_setN]
    refine (z1d (x:=x) (k1:=k1) (k2:=k2) (.inr ⟨y,r,u,g,rfl,rfl,h3,h4,h5⟩) hs (zp hk1 hk2 n21) hk1 hk2 (by rw [Store.set_ne _ _ n12];exact Store.set_same _ _ _) (Store.set_same _ _ _) (by omega)).Q ?_
    rintro v' s' ⟨q1,q2⟩
    simp only [ek,↓vcPre,↓z0,↓reduceIte,vcPost,vcStd,Nat.reduceEqDiff,reduceCtorEq,Nat.reduceAdd,Nat.reduceLeDiff,Int.reduceLT,Int.reduceLE,↓u_setN]
    refine NextQ.to (k+1,v',s') rfl (Store.sub_refl _) (by simp only;omega) ⟨by simp only;omega,q1,?_⟩
    simp only
    rw [hstep]
    simp only [preA1]
    rw [if_neg (by omega)];exact q2
 ·have hkm:k=m:=by omega
  subst hkm
  refine EndQ.weak v rfl (HO.freeze ho' hs ⟨rfl,rfl⟩)
theorem Own.slcP {esz:Nat} {τ s:Store} {L:List (List AV)} {v:AV} (h:Own esz τ L v s):slc s esz v=some L:=by
 rcases h with ⟨rfl,rfl⟩ | ⟨g,rfl,_,h⟩
 ·rfl
 ·exact zq h rfl
theorem z16 {bytes:Nat} {σ s0 s:Store} {L:List (List AV)} {v:AV} {x:Int} {k1 k2:Nat} {K:AV→Store→Prop} (ho:Own 2 σ L v s0) (hs0:Store.sub σ s0) (hs:Store.sub s0 s) (h1:s0 k1=none) (h2:s0 k2=none) (hb:bytes=32) (e1:s k1=some (.arr 1 [cU x])) (e2:s k2=some (.arr 2 [[.int .i64 2,.os k1 1 0 1]]))
 (hl:L.length≤2000000) (h:∀ j s',Store.sub σ s'→σ j=none→s' j=some (.arr 2 ([.int .i64 2,.os k1 1 0 1]::L))→Own 1 σ [cU x] (.os k1 1 0 1) s'→K (.os j 2 0 (1+L.length)) s'):appwp 2 bytes (.os k2 2 0 1) v s K:=by
 subst hb
 refine yg (zq e2 rfl) (ho.mono hs).slcP (by simp;omega) fun j hj => ?_
 have hσs:=Store.sub_trans hs0 hs
 have hσj:=zm hσs hj
 have hσ2:=zm hs0 h2
 refine h j _ (fun z o hz => ?_) hσj (Store.set_same _ _ _) (.inr ⟨k1,rfl,zm hs0 h1,?_⟩)
 ·have n1:¬ z=j:=fun e=>by subst e;rw [hσj] at hz;cases hz
  have n2:¬ z=k2:=fun e=>by subst e;rw [hσ2] at hz;cases hz
  rw [Store.set_ne _ _ n1,Store.del_ne _ n2];exact hσs _ _ hz
 ·have n1:¬ k1=j:=fun e=>by subst e;rw [e1] at hj;cases hj
  have n2:¬ k1=k2:=fun e=>by subst e;rw [e1] at e2;simp at e2
  rw [Store.set_ne _ _ n1,Store.del_ne _ n2];exact e1
set_option maxHeartbeats 1000000 in
theorem c85 (p:List Seg) (h:p.length≤1000000) (ho:∀ s ∈ p,s.ok) (x n:Int):Pur Tryz.prog 85 [.sl 2 (p.map Seg.c),.int .u32 x,.int .i64 n] (.sl 2 ((preA x (preN n) p).map Seg.c)):=by
 intro σ
 refine zk Ts19.F85 (by simp [Ts19.F85,Fn.mkW]) ?_
 simp only [Ts19.F85,Fn.mkW,Ts19.b85]
 simp only [↓vcPre,↓z0,↓reduceIte,vcPost,vcStd,Nat.reduceEqDiff,reduceCtorEq,Nat.reduceAdd,Nat.reduceLeDiff,Int.reduceLT,Int.reduceLE,↓u_setN]
 refine (zea p h ho σ).Q ?_
 rintro v0 s0 ⟨hs0,ho0⟩
 simp only [↓vcPre,↓z0,↓reduceIte,vcPost,vcStd,Nat.reduceEqDiff,reduceCtorEq,Nat.reduceAdd,Nat.reduceLeDiff,Int.reduceLT,Int.reduceLE,↓u_setN]
 have hm:preN n≤10:=by unfold preN;omega
 have hmn:∀ k:Nat,k≤preN n→((k:Int)<n∧(k:Int)<10↔k<preN n):=by unfold preN;intro k hk;omega
 generalize preN n=m at hm hmn
 refine LoopQ.inv (S:=Nat×AV×Store) (fun q=>[(1,.int .u32 x),(2,.int .i64 n),(7,q.2.1),(8,.int .i64 (q.1:Int))]) (fun q=>q.2.2)
  (fun q=>q.1≤m∧Store.sub σ q.2.2∧Own 2 σ ((preA x q.1 p).map Seg.c) q.2.1 q.2.2) (fun q=>m+1 - q.1) (0,v0,s0) rfl (Store.sub_refl _) ⟨by simp only;omega,hs0,ho0⟩ ?_
 rintro ⟨k,v,s⟩ ⟨hk,hs,ho'⟩
 simp only at hk hs ho'
 simp only [↓vcPre,↓z0,↓reduceIte,vcPost,vcStd,Nat.reduceEqDiff,reduceCtorEq,Nat.reduceAdd,Nat.reduceLeDiff,Int.reduceLT,Int.reduceLE,↓u_setN]
 have hk2:=hmn k hk
 have ek:IntKind.i64.wrap ((k:Int)+1)=((k+1:Nat):Int):=by rw [zd (by unfold I64;omega)];omega
 refine ⟨fun a1=>⟨fun a2 => ?_,fun a2 => ?_⟩,fun a1 => ?_⟩
 ·have c1':k<m:=hk2.1 ⟨a1,a2⟩
  have hpl:=xn x k p
  have hstep:preA x (k+1) p=preA1 x (preA x k p):=rfl
  generalize preA x k p=P0 at ho' hpl hstep
  cases P0 with
  | nil =>
    have hlv:pv .len [v]=some (.int .i64 0):=by
     rcases ho' with ⟨q1,rfl⟩ | ⟨j,rfl,_⟩
     ·rfl
     ·rfl
    simp only [hlv,↓vcPre,↓z0,↓reduceIte,vcPost,vcStd,Nat.reduceEqDiff,reduceCtorEq,Nat.reduceAdd,Nat.reduceLeDiff,Int.reduceLT,Int.reduceLE,↓u_setN]
    refine AllocQ.i0 fun k1 hk1 => ?_
    simp only [↓vcPre,↓z0,↓reduceIte,vcPost,vcStd,Nat.reduceEqDiff,reduceCtorEq,Nat.reduceAdd,Nat.reduceLeDiff,Int.reduceLT,Int.reduceLE,↓u_setN]
    refine AllocQ.i1 fun k2 n21 n12 hk2 => ?_
    simp only [↓vcPre,↓z0,↓reduceIte,vcPost,vcStd,Nat.reduceEqDiff,reduceCtorEq,Nat.reduceAdd,Nat.reduceLeDiff,Int.reduceLT,Int.reduceLE,↓u_setN]
    refine z16 (L:=[]) (x:=x) (k1:=k1) (k2:=k2) ho' hs (zp hk1 hk2 n21) hk1 hk2 rfl (by rw [Store.set_ne _ _ n12];exact Store.set_same _ _ _) (Store.set_same _ _ _) (by have:=hpl;simp only [List.length_map,List.length_cons,List.length_nil] at this ⊢;omega) fun j s' q1 q2 q3 q4 => ?_
    simp only [↓vcPre,↓z0,↓reduceIte,vcPost,vcStd,Nat.reduceEqDiff,reduceCtorEq,Nat.reduceAdd,Nat.reduceLeDiff,Int.reduceLT,Int.reduceLE,↓u_setN]
    refine WkQ.of (WeakE.ownArr j 0 1 q3 rfl rfl q4 q1 q2 (by decide) fun σ' h6 h7 _=>WeakE.pure ?_)
    simp only [ek,↓vcPre,↓z0,↓reduceIte,vcPost,vcStd,Nat.reduceEqDiff,reduceCtorEq,Nat.reduceAdd,Nat.reduceLeDiff,Int.reduceLT,Int.reduceLE,↓u_setN]
    refine NextQ.to (k+1,_,σ') rfl (Store.sub_refl _) (by simp only;omega) ⟨by simp only;omega,h6,?_⟩
    simp only
    rw [hstep]
    refine .inr ⟨j,?_,q2,?_⟩
    ·simp only [preA1];rfl
    ·rw [h7];simp only [preA1];rfl
  | cons y r =>
    rcases ho' with ⟨q1,_⟩ | ⟨g,rfl,h3,h4⟩
    ·simp at q1
    have ho':Own 2 σ ((y::r).map Seg.c) (.os g 2 0 ((y::r).map Seg.c).length) s := .inr ⟨g,rfl,h3,h4⟩
    have eg:∀ h,((y::r).map Seg.c)[0+Int.toNat 0]'h=[AV.int .i64 y.kind,.sl 1 (y.ls.map cU)]:=fun _=>rfl
    have hl:((y::r).map Seg.c).length=r.length+1:=by simp
    have ho2:Own 2 σ ((y::r).map Seg.c) (.os g 2 0 (r.length+1)) s:=by rw [←hl];exact ho'
    simp only [h4,eg,hl,↓vcPre,↓z0,↓reduceIte,vcPost,vcStd,Nat.reduceEqDiff,reduceCtorEq,Nat.reduceAdd,Nat.reduceLeDiff,Int.reduceLT,Int.reduceLE,↓u_setN]
    refine ⟨fun _=>⟨by omega,by simp,fun c2=>⟨by omega,by simp,fun c3 => ?_,fun c3 => ?_⟩,fun c2 => ?_⟩,fun c=>absurd (by omega) c⟩
    ·refine AllocQ.i0 fun h1 hh1 => ?_
     have hsh:=Store.sub_set s h1 (.arr 1 [[.int .u32 x]]) hh1
     have e4':=hsh _ _ h4
     simp only [e4',eg,hl,↓vcPre,↓z0,↓reduceIte,vcPost,vcStd,Nat.reduceEqDiff,reduceCtorEq,Nat.reduceAdd,Nat.reduceLeDiff,Int.reduceLT,Int.reduceLE,↓u_setN]
     refine ⟨by omega,by simp,?_⟩
     refine yg (zq (Store.set_same _ _ _) rfl) yw (by simp;omega) fun j hj => ?_
     have hgh:¬ g=h1:=fun e=>by subst e;rw [h4] at hh1;cases hh1
     have e4:=hsh _ _ h4
     have hgj:¬ g=j:=fun e=>by subst e;rw [e4] at hj;cases hj
     have hσj:σ j=none:=zm (Store.sub_trans hs hsh) hj
     have hσh:σ h1=none:=zm hs hh1
     have E4:(((s.set h1 (.arr 1 [[.int .u32 x]])).del h1).set j (.arr 1 ([[.int .u32 x]]++y.ls.map cU))) g=some (.arr 2 ((y::r).map Seg.c)):=by
      rw [Store.set_ne _ _ hgj,Store.del_ne _ hgh];exact e4
     have hS:Store.sub σ (((s.set h1 (.arr 1 [[.int .u32 x]])).del h1).set j (.arr 1 ([[.int .u32 x]]++y.ls.map cU))):=fun z o hz=>by
      have n1:¬ z=j:=fun e=>by subst e;rw [hσj] at hz;cases hz
      have n2:¬ z=h1:=fun e=>by subst e;rw [hσh] at hz;cases hz
      rw [Store.set_ne _ _ n1,Store.del_ne _ n2];exact hsh _ _ (hs _ _ hz)
     have E5:(((s.set h1 (.arr 1 [[.int .u32 x]])).del h1).set j (.arr 1 ([[.int .u32 x]]++y.ls.map cU))) j=some (.arr 1 ((x::y.ls).map cU)):=Store.set_same _ _ _
     generalize (((s.set h1 (.arr 1 [[.int .u32 x]])).del h1).set j (.arr 1 ([[.int .u32 x]]++y.ls.map cU)))=s2 at E4 E5 hS ⊢
     simp only [E4,eg,hl,↓vcPre,↓z0,↓reduceIte,vcPost,vcStd,Nat.reduceEqDiff,reduceCtorEq,Nat.reduceAdd,Nat.reduceLeDiff,Int.reduceLT,Int.reduceLE,↓u_setN]
     refine ⟨by omega,by simp,?_⟩
     have hgj':¬ j=g:=fun e=>hgj e.symm
     refine WkQ.of (WeakE.ownArr g 0 1 (L:=(x::y.ls).map cU) (Store.set_same _ _ _) rfl rfl (.inr ⟨j,by simp;omega,hσj,by rw [Store.set_ne _ _ hgj'];exact E5⟩) (za hS h3) h3 (by decide) fun σ' h6 h7 _=>WeakE.pure ?_)
     simp only [ek,↓vcPre,↓z0,↓reduceIte,vcPost,vcStd,Nat.reduceEqDiff,reduceCtorEq,Nat.reduceAdd,Nat.reduceLeDiff,Int.reduceLT,Int.reduceLE,↓u_setN]
     refine NextQ.to (k+1,.os g 2 0 (r.length+1),σ') rfl (Store.sub_refl _) (by simp only;omega) ⟨by simp only;omega,h6,?_⟩
     simp only
     rw [hstep]
     refine .inr ⟨g,?_,h3,?_⟩
     ·simp only [preA1];rw [if_pos ⟨c2,by omega⟩];simp
     ·rw [h7];simp only [preA1];rw [if_pos ⟨c2,by omega⟩];rfl
    ·refine AllocQ.i0 fun k1 hk1 => ?_
     simp only [↓vcPre,↓z0,↓reduceIte,vcPost,vcStd,Nat.reduceEqDiff,reduceCtorEq,Nat.reduceAdd,Nat.reduceLeDiff,Int.reduceLT,Int.reduceLE,↓u_setN]
     refine AllocQ.i1 fun k2 n21 n12 hk2 => ?_
     simp only [↓vcPre,↓z0,↓reduceIte,vcPost,vcStd,Nat.reduceEqDiff,reduceCtorEq,Nat.reduceAdd,Nat.reduceLeDiff,Int.reduceLT,Int.reduceLE,↓u_setN]
     refine z16 (L:=(y::r).map Seg.c) (x:=x) (k1:=k1) (k2:=k2) ho2 hs (zp hk1 hk2 n21) hk1 hk2 rfl (by rw [Store.set_ne _ _ n12];exact Store.set_same _ _ _) (Store.set_same _ _ _) (by have:=hpl;simp only [List.length_map,List.length_cons,List.length_nil] at this ⊢;omega) fun j s' q1 q2 q3 q4 => ?_
     simp only [↓vcPre,↓z0,↓reduceIte,vcPost,vcStd,Nat.reduceEqDiff,reduceCtorEq,Nat.reduceAdd,Nat.reduceLeDiff,Int.reduceLT,Int.reduceLE,↓u_setN]
     refine WkQ.of (WeakE.ownArr j 0 1 q3 rfl rfl q4 q1 q2 (by decide) fun σ' h6 h7 _=>WeakE.pure ?_)
     simp only [ek,↓vcPre,↓z0,↓reduceIte,vcPost,vcStd,Nat.reduceEqDiff,reduceCtorEq,Nat.reduceAdd,Nat.reduceLeDiff,Int.reduceLT,Int.reduceLE,↓u_setN]
     refine NextQ.to (k+1,_,σ') rfl (Store.sub_refl _) (by simp only;omega) ⟨by simp only;omega,h6,?_⟩
     simp only
     rw [hstep]
     refine .inr ⟨j,?_,q2,?_⟩
     ·simp only [preA1];rw [if_neg (by omega)];simp [Seg.c];try omega
     ·rw [h7];simp only [preA1];rw [if_neg (by omega)];simp [Seg.c];try omega
    ·refine AllocQ.i0 fun k1 hk1 => ?_
     simp only [↓vcPre,↓z0,↓reduceIte,vcPost,vcStd,Nat.reduceEqDiff,reduceCtorEq,Nat.reduceAdd,Nat.reduceLeDiff,Int.reduceLT,Int.reduceLE,↓u_setN]
     refine AllocQ.i1 fun k2 n21 n12 hk2 => ?_
     simp only [↓vcPre,↓z0,↓reduceIte,vcPost,vcStd,Nat.reduceEqDiff,reduceCtorEq,Nat.reduceAdd,Nat.reduceLeDiff,Int.reduceLT,Int.reduceLE,↓u_setN]
     refine z16 (L:=(y::r).map Seg.c) (x:=x) (k1:=k1) (k2:=k2) ho2 hs (zp hk1 hk2 n21) hk1 hk2 rfl (by rw [Store.set_ne _ _ n12];exact Store.set_same _ _ _) (Store.set_same _ _ _) (by have:=hpl;simp only [List.length_map,List.length_cons,List.length_nil] at this ⊢;omega) fun j s' q1 q2 q3 q4 => ?_
     simp only [↓vcPre,↓z0,↓reduceIte,vcPost,vcStd,Nat.reduceEqDiff,reduceCtorEq,Nat.reduceAdd,Nat.reduceLeDiff,Int.reduceLT,Int.reduceLE,↓u_setN]
     refine WkQ.of (WeakE.ownArr j 0 1 q3 rfl rfl q4 q1 q2 (by decide) fun σ' h6 h7 _=>WeakE.pure ?_)
     simp only [ek,↓vcPre,↓z0,↓reduceIte,vcPost,vcStd,Nat.reduceEqDiff,reduceCtorEq,Nat.reduceAdd,Nat.reduceLeDiff,Int.reduceLT,Int.reduceLE,↓u_setN]
     refine NextQ.to (k+1,_,σ') rfl (Store.sub_refl _) (by simp only;omega) ⟨by simp only;omega,h6,?_⟩
     simp only
     rw [hstep]
     refine .inr ⟨j,?_,q2,?_⟩
     ·simp only [preA1];rw [if_neg (by omega)];simp [Seg.c];try omega
     ·rw [h7];simp only [preA1];rw [if_neg (by omega)];simp [Seg.c];try omega
 ·have hkm:k=m:=by omega
  subst hkm
  exact EndQ.own rfl ho' hs ⟨rfl,rfl⟩
 ·have hkm:k=m:=by omega
  subst hkm
  exact EndQ.own rfl ho' hs ⟨rfl,rfl⟩
end Go.Am
namespace Go.Am.Ts20
open Go.Proofs Go.Am.B
def t139_44:BC := .seq (.wk 9 (.ops [⟨some 44,none,.load (.ld 9 true),[.t 5]⟩,g 45 74 [.t 44],s 9 6 45] [6])) .ret
def t139_28:BC := .seq (z [f 28 11 3,l 29 1 28,p 30 (.bin .neq) [.t 29,.c (.int .u32 0)],m 31 30,⟨some 32,some (31,true),.pure (.fld 8),[.t 5]⟩,⟨some 33,some (31,true),.load (.ld 1 false),[.t 32]⟩,⟨some 34,some (31,true),.pure (.len),[.t 33]⟩,⟨some 35,some (31,true),.pure (.bin .lss),[.t 34,.c (.int .i64 32)]⟩,⟨some 36,none,.pick,[.t 31,.t 35,.c (.bool false)]⟩] [3,5,6,36] (.cond (.t 36) (.ops [f 37 8 5,l 38 1 37,f 39 11 3,l 40 1 39,⟨some 41,none,.alloc (.mksl 1 1),[.t 40]⟩,⟨some 42,none,.loud (.app 1 4),[.t 38,.t 41]⟩,f 43 8 5,s 1 43 42] [5,6]) .skip)) t139_44
def t139_19:BC:=z [f 19 1 5,l 20 1 19,m 21 1,f 22 10 3,l 23 1 22,g 24 76 [.t 20,.t 21,.t 23],f 25 1 5,s 1 25 24] [3,5,6] (z [⟨some 26,none,.load (.ld 9 true),[.t 5]⟩,g 27 74 [.t 26],s 9 5 27] [3,5,6] t139_28)
def t139_13:BC := .seq (z [f 13 8 3,l 14 1 13] [1,3,5,6,14] (.cond (.t 14) (z [f 15 9 3] [1,3,5,6,15] (z [f 17 3 5] [1,3,5,6,15,17] (.both (z [l 16 1 15] [1,3,5,6,16,17] (z [⟨none,none,.loud (.st 1),[.t 17,.c (.bool true)]⟩] [1,3,5,6,16] (z [f 18 4 5] [1,3,5,6,16,18] (z [s 1 18 16] [1,3,5,6] (.ops [] [1,3,5,6]))))) (.both (z [⟨none,none,.loud (.st 1),[.t 17,.c (.bool true)]⟩] [1,3,5,6,15] (z [l 16 1 15] [1,3,5,6,16] (z [f 18 4 5] [1,3,5,6,16,18] (z [s 1 18 16] [1,3,5,6] (.ops [] [1,3,5,6]))))) (.top))))) .skip)) t139_19
def b139:BC:=z [⟨some 3,none,.alloc (.box),[.t 0]⟩,⟨some 5,none,.alloc (.box),[.t 2]⟩,⟨some 6,none,.alloc (.alloc [(.int .i64 0),.nils,(.int .u32 0),(.bool false),(.int .u32 0),(.bool false),(.int .u32 0),(.bool false),.nils]),[]⟩] [1,3,5,6] (.seq (z [f 7 6 3,l 8 1 7] [1,3,5,6,8] (.cond (.t 8) (z [f 9 7 3] [1,3,5,6,9] (z [f 11 5 5] [1,3,5,6,9,11] (.both (z [l 10 1 9] [1,3,5,6,10,11] (z [⟨none,none,.loud (.st 1),[.t 11,.c (.bool true)]⟩] [1,3,5,6,10] (z [f 12 6 5] [1,3,5,6,10,12] (z [s 1 12 10] [1,3,5,6] (.ops [] [1,3,5,6]))))) (.both (z [⟨none,none,.loud (.st 1),[.t 11,.c (.bool true)]⟩] [1,3,5,6,9] (z [l 10 1 9] [1,3,5,6,10] (z [f 12 6 5] [1,3,5,6,10,12] (z [s 1 12 10] [1,3,5,6] (.ops [] [1,3,5,6]))))) (.top))))) .skip)) t139_13)
def F139:Fn Tryz.prog 139:=Fn.mkW false [9] b139 [.c 6 9 true] 46 Tryz.f139 _ Tryz.func139 (by decide) rfl Tryz.ntmps139 (by kernel_rfl) (by kernel_rfl)
end Go.Am.Ts20
namespace Go.Am.Ts18
open Go.Proofs Go.Am.B
def t139_19:BC:=z [f 19 1 5,l 20 1 19,m 21 1,f 22 10 3,l 23 1 22,g 24 76 [.t 20,.t 21,.t 23],f 25 1 5,s 1 25 24] [3,5,6] (z [⟨some 26,none,.load (.ld 9 true),[.t 5]⟩,g 27 74 [.t 26],s 9 5 27] [3,5,6] (.seq (z [f 28 11 3,l 29 1 28,p 30 (.bin .neq) [.t 29,.c (.int .u32 0)],m 31 30,⟨some 32,some (31,true),.pure (.fld 8),[.t 5]⟩,⟨some 33,some (31,true),.load (.ld 1 false),[.t 32]⟩,⟨some 34,some (31,true),.pure (.len),[.t 33]⟩,⟨some 35,some (31,true),.pure (.bin .lss),[.t 34,.c (.int .i64 32)]⟩,⟨some 36,none,.pick,[.t 31,.t 35,.c (.bool false)]⟩] [3,5,6,36] (.cond (.t 36) (.ops [f 37 8 5,l 38 1 37,f 39 11 3,l 40 1 39,⟨some 41,none,.alloc (.mksl 1 1),[.t 40]⟩,⟨some 42,none,.loud (.app 1 4),[.t 38,.t 41]⟩,f 43 8 5,s 1 43 42] [5,6]) .skip)) (z [⟨some 44,none,.load (.ld 9 true),[.t 5]⟩,g 45 74 [.t 44],s 9 6 45] [6] .ret)))
def t139_13:BC := .seq (z [f 13 8 3,l 14 1 13] [1,3,5,6,14] (.cond (.t 14) (z [f 15 9 3] [1,3,5,6,15] (z [f 17 3 5] [1,3,5,6,15,17] (.both (z [l 16 1 15] [1,3,5,6,16,17] (z [⟨none,none,.loud (.st 1),[.t 17,.c (.bool true)]⟩] [1,3,5,6,16] (z [f 18 4 5] [1,3,5,6,16,18] (z [s 1 18 16] [1,3,5,6] (.ops [] [1,3,5,6]))))) (.both (z [⟨none,none,.loud (.st 1),[.t 17,.c (.bool true)]⟩] [1,3,5,6,15] (z [l 16 1 15] [1,3,5,6,16] (z [f 18 4 5] [1,3,5,6,16,18] (z [s 1 18 16] [1,3,5,6] (.ops [] [1,3,5,6]))))) (.top))))) .skip)) t139_19
def b139:BC:=z [⟨some 3,none,.alloc (.box),[.t 0]⟩,⟨some 5,none,.alloc (.box),[.t 2]⟩,⟨some 6,none,.alloc (.alloc [(.int .i64 0),.nils,(.int .u32 0),(.bool false),(.int .u32 0),(.bool false),(.int .u32 0),(.bool false),.nils]),[]⟩] [1,3,5,6] (.seq (z [f 7 6 3,l 8 1 7] [1,3,5,6,8] (.cond (.t 8) (z [f 9 7 3] [1,3,5,6,9] (z [f 11 5 5] [1,3,5,6,9,11] (.both (z [l 10 1 9] [1,3,5,6,10,11] (z [⟨none,none,.loud (.st 1),[.t 11,.c (.bool true)]⟩] [1,3,5,6,10] (z [f 12 6 5] [1,3,5,6,10,12] (z [s 1 12 10] [1,3,5,6] (.ops [] [1,3,5,6]))))) (.both (z [⟨none,none,.loud (.st 1),[.t 11,.c (.bool true)]⟩] [1,3,5,6,9] (z [l 10 1 9] [1,3,5,6,10] (z [f 12 6 5] [1,3,5,6,10,12] (z [s 1 12 10] [1,3,5,6] (.ops [] [1,3,5,6]))))) (.top))))) .skip)) t139_13)
def F139:Fn Tryz.prog 139:=Fn.mkX false b139 [.c 6 9 true] 46 Tryz.f139 _ Tryz.func139 (by decide) rfl Tryz.ntmps139 (by kernel_rfl) (by kernel_rfl)
end Go.Am.Ts18
namespace Go.Am
open Go.Proofs Go.Sort
section
variable {r:Rule} {σ:Store} {n rr:Env→Store→Prop} {xx:Nat→Env→Store→Prop} {p3 p5 p6:Nat} {as1:Int}
def medA (r:Rule) (b:At):At:=if r.sm then { b with hm:=true,med:=r.md } else b
def prfA (r:Rule) (b:At):At:=if r.sp then { b with hp:=true,prf:=r.pf } else b
end
end Go.Am
namespace Go.Am
open Go.Proofs Go.Sort
def CO (σ:Store) (L:List Int) (u:AV) (s:Store):Prop :=
 (L=[]∧u = .nils)∨∃ g,∃ M:List Int,u = .os g 1 0 L.length∧σ g=none∧s g=some (.arr 1 (M.map cU))∧L.length≤M.length∧M.take L.length=L
theorem CO.slc {σ s:Store} {L:List Int} {u:AV} (h:CO σ L u s):slc s 1 u=some (L.map cU):=by
 rcases h with ⟨rfl,rfl⟩ | ⟨g,M,rfl,_,h3,h4,h5⟩
 ·rfl
 ·rw [qr h3 (by simpa using h4),List.drop_zero,←List.map_take,h5]
theorem CO.len {σ s:Store} {L:List Int} {u:AV} (h:CO σ L u s):pv .len [u]=some (.int .i64 (L.length:Int)):=by
 rcases h with ⟨rfl,rfl⟩ | ⟨g,M,rfl,_⟩ <;> rfl
theorem CO.mono {σ s s':Store} {L:List Int} {u:AV} (h:CO σ L u s) (hs:∀ g o,σ g=none→s g=some o→s' g=some o):CO σ L u s':=by
 rcases h with h | ⟨g,M,h1,h2,h3,h4⟩
 ·exact .inl h
 ·exact .inr ⟨g,M,h1,h2,hs _ _ h2 h3,h4⟩
theorem CO.cell {σ s:Store} {L:List Int} {u:AV} (h:CO σ L u s):u.cells=[u]∧u.isTup=false∧u.flat=true:=by
 rcases h with ⟨rfl,rfl⟩ | ⟨g,M,rfl,_⟩ <;> exact ⟨rfl,rfl,rfl⟩
theorem zgs (a:At) (h:a.ok) (σ:Store):ACalls Tryz.prog 74 [.agg a.c] σ (fun r s=>∃ u,r = .agg ((canonA a).cO u)∧CO σ (canonA a).cms u s∧Store.sub σ s):=by
 refine (s74 a h σ).mono ?_
 rintro r s (⟨hz,rfl,rfl⟩ | ⟨g,M,m1,m2,m3,rfl,rfl⟩)
 ·exact ⟨.nils,rfl,.inl ⟨hz,rfl⟩,Store.sub_refl _⟩
 ·exact ⟨_,rfl,.inr ⟨g,M,rfl,m1,Store.set_same _ _ _,m2,m3⟩,Store.sub_set _ _ _ m1⟩
theorem WeakE.coBox {e:Env} {σ s:Store} {Q:Env→Store→Prop} (p:Nat) {b:At} {u:AV} (hp:s p=some (.box (b.cO u))) (ho:CO σ b.cms u s) (hs:Store.sub σ s) (hσ:σ p=none)
 (h:∀ s',Store.sub σ s'→s' p=some (.box b.c)→(∀ y o,s y=some o→¬ y=p→(∀ n,u ≠ .os y 1 0 n)→s' y=some o)→WeakE e s' Q):WeakE e s Q:=by
 rcases ho with ⟨h1,rfl⟩ | ⟨g,M,rfl,h2,h3,h4,h5⟩
 ·refine .cell p 8 hp rfl (fun G w v h=>qn 1 G w v h) rfl (h _ (za hs hσ) (by rw [Store.set_same];simp [At.cO,At.c,h1]) fun y o hy hn _=>by rw [Store.set_ne _ _ hn];exact hy)
 ·refine .frzBox p 8 hp rfl h3 (by simpa using h4) ?_
  refine h _ (za (sub_del hs h2) hσ) ?_ fun y o hy hn hv => ?_
  ·rw [Store.set_same,List.drop_zero,←List.map_take,h5];rfl
  ·rw [Store.set_ne _ _ hn,Store.del_ne _ (fun e=>hv _ (by rw [e]))];exact hy
theorem CO.app {bytes:Nat} {σ s:Store} {L:List Int} {u wv:AV} {x:Int} {K:AV→Store→Prop} (ho:CO σ L u s) (hs:Store.sub σ s) (hw:Go.Am.slc s 1 wv=some [cU x]) (hb:bytes=4) (hl:L.length≤1000000)
 (h:∀ j s',σ j=none→s' j=some (.arr 1 ((L++[x]).map cU))→(∀ y o,s y=some o→(∀ n,u ≠ .os y 1 0 n)→s' y=some o∧¬ y=j)→Store.sub σ s'→K (.os j 1 0 (L++[x]).length) s'):appwp 1 bytes u wv s K:=by
 subst hb
 have hsl:=ho.slc
 rcases ho with ⟨rfl,rfl⟩ | ⟨g,M,rfl,h2,h3,h4,h5⟩
 ·refine qk hw (by simp) (fun h0=>by cases h0) fun _ j hj => ?_
  have hσj:=zm hs hj
  refine h j _ hσj (Store.set_same _ _ _) (fun y o hy _ => ?_) (za hs hσj)
  have hn:¬ y=j:=fun e=>by subst e;rw [hj] at hy;cases hy
  exact ⟨by rw [Store.set_ne _ _ hn];exact hy,hn⟩
 ·refine yg hsl hw (by simp;omega) fun j hj => ?_
  have hσj:=zm hs hj
  have e:(L.map cU).length+[cU x].length=(L++[x]).length:=by simp
  rw [e]
  refine h j _ hσj (by rw [Store.set_same,List.map_append];rfl) (fun y o hy hn2 => ?_) (fun y o hy => ?_)
  ·have hn:¬ y=j:=fun e=>by subst e;rw [hj] at hy;cases hy
   exact ⟨by rw [Store.set_ne _ _ hn,Store.del_ne _ (fun e=>hn2 L.length (by rw [e]))];exact hy,hn⟩
  ·have n1:¬ y=j:=fun e=>by subst e;rw [hσj] at hy;cases hy
   have n2:¬ y=g:=fun e=>by subst e;rw [h2] at hy;cases hy
   rw [Store.set_ne _ _ n1,Store.del_ne _ n2];exact hs _ _ hy
theorem CO.notBox {σ s:Store} {L:List Int} {u:AV} (h:CO σ L u s) {p:Nat} {cs:List AV} (hp:s p=some (.box cs)):∀ n,u ≠ .os p 1 0 n:=fun n e=>by
 rcases h with ⟨_,rfl⟩ | ⟨g,M,rfl,_,h3,_⟩
 ·cases e
 ·simp only [AV.os.injEq] at e
  obtain ⟨rfl,_⟩:=e
  rw [hp] at h3;cases h3
def pathA (r:Rule) (x:Int) (b:At):At:={ b with path:=preA x (preN r.pp) b.path }
def commA (r:Rule) (b:At):At:=if r.ac≠0∧b.cms.length<32 then { b with cms:=b.cms++[r.ac] } else b
def doneN (r:Rule) (x:Int) (a:At):At:=canonA (commA r (canonA (pathA r x (medA r (prfA r a)))))
section
variable {r:Rule} {σ:Store} {n rr:Env→Store→Prop} {xx:Nat→Env→Store→Prop} {p3 p5 p6:Nat} {as1:Int}
theorem z0i {T:Store} (b:At) (hb:b.ok) (z:List AV) (hz:z.length=9) (h6:σ p6=none) (E:List (Nat×AV)) (e0:Env) (he:e0=(5,.ptr p5 0)::(6,.ptr p6 0)::E∨∃ y,e0=(3,y)::(5,.ptr p5 0)::(6,.ptr p6 0)::E)
 (hw:WeakE e0 T (fun e' T'=>e'=e0∧T' p5=some (.box b.c)∧T' p6=some (.box z)∧Store.sub σ T'))
 (hr:∀ t',Store.sub σ t'→t' p6=some (.box (canonA b).c)→rr [(6,.ptr p6 0)] t'):bwp Tryz.prog Ts20.t139_44 e0 T n rr xx:=by
 simp only [Ts20.t139_44]
 have e9:∀ y:At,y.c.length=9:=fun _=>rfl
 have t9:∀ y:At,List.take 9 y.c=y.c:=fun _=>rfl
 have sZ:∀ y:At,splice 0 y.c z=some y.c:=fun y=>x7 _ _ (by rw [hz];rfl)
 rcases he with rfl | ⟨y,rfl⟩
 all_goals
  simp only [↓vcPre,↓z0,↓reduceIte,vcPost,vcStd,Nat.reduceEqDiff,reduceCtorEq,Nat.reduceAdd,Nat.reduceLeDiff,Int.reduceLT,Int.reduceLE,↓u_setN]
  refine WkQ.of (hw.mono fun e' s' ⟨q1,q2,q3,q4⟩ => ?_)
  subst q1
  simp only [q2,q3,e9,t9,↓vcPre,↓z0,↓reduceIte,vcPost,vcStd,Nat.reduceEqDiff,reduceCtorEq,Nat.reduceAdd,Nat.reduceLeDiff,Int.reduceLT,Int.reduceLE,↓u_setN]
  refine (c74 b hb).Q ?_
  simp only [q3,sZ,↓vcPre,↓z0,↓reduceIte,vcPost,vcStd,Nat.reduceEqDiff,reduceCtorEq,Nat.reduceAdd,Nat.reduceLeDiff,Int.reduceLT,Int.reduceLE,↓u_setN]
  exact ⟨rfl,hr _ (za q4 h6) (Store.set_same _ _ _)⟩
theorem z88 {T:Store} (b:At) (hb:b.ok) (hb2:b.cms.length≤900000) (u:AV) (z:List AV) (hz:z.length=9) (h35:¬ p3=p5) (h65:¬ p6=p5) (T3:T p3=some (.box r.c)) (T5:T p5=some (.box (b.cO u))) (T6:T p6=some (.box z)) (ho:CO σ b.cms u T) (hs:Store.sub σ T) (h5:σ p5=none) (h6:σ p6=none) (E:List (Nat×AV))
 (hr:∀ t',Store.sub σ t'→t' p6=some (.box (canonA (commA r b)).c)→rr [(6,.ptr p6 0)] t'):bwp Tryz.prog Ts20.t139_28 ((3,.ptr p3 0)::(5,.ptr p5 0)::(6,.ptr p6 0)::E) T n rr xx:=by
 simp only [Ts20.t139_28]
 have e12:∀ y:Rule,y.c.length=12:=fun _=>rfl
 have o9:∀ (y:At) u,(y.cO u).length=9:=fun _ _=>rfl
 have r11:List.take 1 (List.drop 11 r.c)=[.int .u32 r.ac]:=rfl
 have o8:List.take 1 (List.drop 8 (b.cO u))=[u]:=rfl
 have s8:∀ v,splice 8 [v] (b.cO u)=some (b.cO v):=fun _=>rfl
 have hlu:=ho.len
 have no:∀ e0,WeakE e0 T (fun e' T'=>e'=e0∧T' p5=some (.box b.c)∧T' p6=some (.box z)∧Store.sub σ T'):=fun e0 =>
  WeakE.coBox p5 T5 ho hs h5 fun s' q1 q2 q3=>WeakE.pure ⟨rfl,q2,q3 _ _ T6 h65 (ho.notBox T6),q1⟩
 have hc1:¬ (r.ac≠0∧b.cms.length<32)→commA r b=b:=fun h=>by unfold commA;rw [if_neg h]
 have hc2:(r.ac≠0∧b.cms.length<32)→commA r b={ b with cms:=b.cms++[r.ac] }:=fun h=>by unfold commA;rw [if_pos h]
 simp only [T3,T5,r11,o8,e12,o9,hlu,↓vcPre,↓z0,↓reduceIte,vcPost,vcStd,Nat.reduceEqDiff,reduceCtorEq,Nat.reduceAdd,Nat.reduceLeDiff,Int.reduceLT,Int.reduceLE,↓u_setN]
 refine ⟨fun c1=>⟨fun c2 => ?_,fun c2 => ?_⟩,fun c1 => ?_⟩
 ·rw [hc2 ⟨c1,by omega⟩] at hr
  refine AllocQ.i0 fun d hd => ?_
  have ho1:=ho.mono (s':=T.set d (.arr 1 [[.int .u32 r.ac]])) fun g o _ hg=>Store.sub_set T d _ hd _ _ hg
  have hd1:σ d=none:=zm hs hd
  have h5d:¬ p5=d:=fun e=>by subst e;rw [T5] at hd;cases hd
  simp only [↓vcPre,↓z0,↓reduceIte,vcPost,vcStd,Nat.reduceEqDiff,reduceCtorEq,Nat.reduceAdd,Nat.reduceLeDiff,Int.reduceLT,Int.reduceLE,↓u_setN]
  refine CO.app ho1 (Store.sub_trans hs (Store.sub_set T d _ hd)) (zq (Store.set_same _ _ _) rfl) rfl (by omega) fun j s' q1 q2 q3 q4 => ?_
  obtain ⟨k5,n5⟩:=q3 _ _ (Store.sub_set T d _ hd _ _ T5) (ho.notBox T5)
  obtain ⟨k6,n6⟩:=q3 _ _ (Store.sub_set T d _ hd _ _ T6) (ho.notBox T6)
  simp only [k5,s8,o9,↓vcPre,↓z0,↓reduceIte,vcPost,vcStd,Nat.reduceEqDiff,reduceCtorEq,Nat.reduceAdd,Nat.reduceLeDiff,Int.reduceLT,Int.reduceLE,↓u_setN]
  refine z0i { b with cms:=b.cms++[r.ac] } ⟨hb.1,hb.2.1,by simp;omega⟩ z hz h6 [] _ (.inl rfl) (WeakE.coBox (σ:=σ) (u := .os j 1 0 (b.cms++[r.ac]).length) (b:={ b with cms:=b.cms++[r.ac] }) p5 (Store.set_same _ _ _) (.inr ⟨j,b.cms++[r.ac],rfl,q1,by rw [Store.set_ne _ _ (fun e=>n5 e.symm)];exact q2,Nat.le_refl _,List.take_length⟩) (za q4 h5) h5 fun s2 w1 w2 w3=>WeakE.pure ⟨rfl,w2,w3 _ _ (by rw [Store.set_ne _ _ h65];exact k6) h65 (fun n e => ?_),w1⟩) hr
  simp only [AV.os.injEq] at e
  exact n6 e.1.symm
 ·rw [hc1 (by omega)] at hr
  refine z0i b hb z hz h6 _ _ (.inr ⟨_,rfl⟩) (no _) hr
 ·rw [hc1 (by omega)] at hr
  refine z0i b hb z hz h6 _ _ (.inr ⟨_,rfl⟩) (no _) hr
theorem z32 {T:Store} (b:At) (hb:b.ok) (hb2:b.path.length≤900000) (hb3:b.cms.length≤900000) (z:List AV) (hz:z.length=9) (h35:¬ p3=p5) (h65:¬ p6=p5) (T3:T p3=some (.box r.c)) (T5:T p5=some (.box b.c)) (T6:T p6=some (.box z)) (hs:Store.sub σ T) (h5:σ p5=none) (h6:σ p6=none) (E:List (Nat×AV))
 (hr:∀ t',Store.sub σ t'→t' p6=some (.box (canonA (commA r (canonA (pathA r as1 b)))).c)→rr [(6,.ptr p6 0)] t'):bwp Tryz.prog Ts20.t139_19 ((1,.int .u32 as1)::(3,.ptr p3 0)::(5,.ptr p5 0)::(6,.ptr p6 0)::E) T n rr xx:=by
 simp only [Ts20.t139_19]
 have e12:∀ y:Rule,y.c.length=12:=fun _=>rfl
 have e9:∀ y:At,y.c.length=9:=fun _=>rfl
 have t9:∀ y:At,List.take 9 y.c=y.c:=fun _=>rfl
 have b1:List.take 1 (List.drop 1 b.c)=[.sl 2 (b.path.map Seg.c)]:=rfl
 have r10:List.take 1 (List.drop 10 r.c)=[.int .i64 r.pp]:=rfl
 have s1:splice 1 [AV.sl 2 ((preA as1 (preN r.pp) b.path).map Seg.c)] b.c=some (pathA r as1 b).c:=rfl
 have hP:(pathA r as1 b).ok:=by
  have:=xn as1 (preN r.pp) b.path
  have h10:preN r.pp≤10:=by unfold preN;omega
  exact ⟨by simp only [pathA];omega,ww as1 _ _ hb.2.1,hb.2.2⟩
 simp only [T3,T5,b1,r10,e12,e9,↓vcPre,↓z0,↓reduceIte,vcPost,vcStd,Nat.reduceEqDiff,reduceCtorEq,Nat.reduceAdd,Nat.reduceLeDiff,Int.reduceLT,Int.reduceLE,↓u_setN]
 refine (zbl b.path hb.1 hb.2.1 as1 r.pp).Q ?_
 simp only [T3,T5,s1,e9,t9,↓vcPre,↓z0,↓reduceIte,vcPost,vcStd,Nat.reduceEqDiff,reduceCtorEq,Nat.reduceAdd,Nat.reduceLeDiff,Int.reduceLT,Int.reduceLE,↓u_setN]
 have U3:=(Store.set_ne T (.box (pathA r as1 b).c) h35).trans T3
 have U6:=(Store.set_ne T (.box (pathA r as1 b).c) h65).trans T6
 have U5:=Store.set_same T p5 (.box (pathA r as1 b).c)
 have sU:Store.sub σ (T.set p5 (.box (pathA r as1 b).c)):=za hs h5
 generalize T.set p5 (.box (pathA r as1 b).c)=U at U3 U5 U6 sU ⊢
 refine (zgs _ hP U).Q ?_
 rintro v s ⟨u,rfl,ho,hs2⟩
 obtain ⟨hu1,hu2,hu3⟩:=ho.cell
 have V3:=hs2 _ _ U3
 have V5:=hs2 _ _ U5
 have V6:=hs2 _ _ U6
 have sA:splice 0 ((canonA (pathA r as1 b)).cO u) (pathA r as1 b).c=some ((canonA (pathA r as1 b)).cO u):=rfl
 have o9:∀ (y:At) u,(y.cO u).length=9:=fun _ _=>rfl
 simp only [V5,sA,o9,e9,↓vcPre,↓z0,↓reduceIte,vcPost,vcStd,Nat.reduceEqDiff,reduceCtorEq,Nat.reduceAdd,Nat.reduceLeDiff,Int.reduceLT,Int.reduceLE,↓u_setN]
 refine z88 (canonA (pathA r as1 b)) (y6 hP) (by have:=x4 (pathA r as1 b).cms;simp only [canonA,pathA] at *;omega) u z hz h35 h65 ((Store.set_ne _ _ h35).trans V3) (Store.set_same _ _ _) ((Store.set_ne _ _ h65).trans V6) ?_ (za (Store.sub_trans sU hs2) h5) h5 h6 [] hr
 rcases ho with ⟨q1,q2⟩ | ⟨g,M,q1,q2,q3,q4⟩
 ·exact .inl ⟨q1,q2⟩
 ·refine .inr ⟨g,M,q1,zm sU q2,?_,q4⟩
  rw [Store.set_ne _ _ (fun e=>by subst e;rw [V5] at q3;cases q3)];exact q3
theorem z31 {T:Store} (b:At) (hb:b.ok) (hb2:b.path.length≤900000) (hb3:b.cms.length≤900000) (z:List AV) (hz:z.length=9) (h35:¬ p3=p5) (h65:¬ p6=p5) (T3:T p3=some (.box r.c)) (T5:T p5=some (.box b.c)) (T6:T p6=some (.box z)) (hs:Store.sub σ T) (h5:σ p5=none) (h6:σ p6=none) (E:List (Nat×AV))
 (hr:∀ t',Store.sub σ t'→t' p6=some (.box (canonA (commA r (canonA (pathA r as1 (medA r b))))).c)→rr [(6,.ptr p6 0)] t'):bwp Tryz.prog Ts20.t139_13 ((1,.int .u32 as1)::(3,.ptr p3 0)::(5,.ptr p5 0)::(6,.ptr p6 0)::E) T n rr xx:=by
 simp only [Ts20.t139_13]
 have e12:∀ y:Rule,y.c.length=12:=fun _=>rfl
 have e9:∀ y:At,y.c.length=9:=fun _=>rfl
 have r8:List.take 1 (List.drop 8 r.c)=[.bool r.sm]:=rfl
 have r9:List.take 1 (List.drop 9 r.c)=[.int .u32 r.md]:=rfl
 have s3:splice 3 [.bool true] b.c=some ({ b with hm:=true }:At).c:=rfl
 have s4:splice 4 [.int .u32 r.md] ({ b with hm:=true }:At).c=some ({ b with hm:=true,med:=r.md }:At).c:=rfl
 have h53:¬ p5=p3:=fun e=>h35 e.symm
 unfold medA at hr
 simp only [T3,r8,e12,↓vcPre,↓z0,↓reduceIte,vcPost,vcStd,Nat.reduceEqDiff,reduceCtorEq,Nat.reduceAdd,Nat.reduceLeDiff,Int.reduceLT,Int.reduceLE,↓u_setN]
 cases h:r.sm
 ·rw [h] at hr
  simp only [Bool.false_eq_true,if_false] at hr
  simp only [↓vcPre,↓z0,↓reduceIte,vcPost,vcStd,Nat.reduceEqDiff,reduceCtorEq,Nat.reduceAdd,Nat.reduceLeDiff,Int.reduceLT,Int.reduceLE,↓u_setN]
  exact z32 b hb hb2 hb3 z hz h35 h65 T3 T5 T6 hs h5 h6 _ hr
 ·rw [h] at hr
  simp only [if_true] at hr
  simp only [T3,T5,r9,e12,e9,s3,s4,h35,h53,↓vcPre,↓z0,↓reduceIte,vcPost,vcStd,Nat.reduceEqDiff,reduceCtorEq,Nat.reduceAdd,Nat.reduceLeDiff,Int.reduceLT,Int.reduceLE,↓u_setN]
  have key:=fun (E:List (Nat×AV))=>z32 (as1:=as1) (n:=n) (rr:=rr) (xx:=xx) (T:=(T.set p5 (.box ({ b with hm:=true }:At).c)).set p5 (.box ({ b with hm:=true,med:=r.md }:At).c)) { b with hm:=true,med:=r.md } hb hb2 hb3 z hz h35 h65 (((Store.set_ne _ _ h35).trans (Store.set_ne _ _ h35)).trans T3) (Store.set_same _ _ _) (((Store.set_ne _ _ h65).trans (Store.set_ne _ _ h65)).trans T6) (za (za hs h5) h5) h5 h6 E hr
  exact ⟨key [],key []⟩
end
set_option maxHeartbeats 1000000 in
theorem zdo (r:Rule) (as1:Int) (a:At) (ha:a.ok) (ha2:a.path.length≤900000) (ha3:a.cms.length≤900000):Pur Tryz.prog 139 [.agg r.c,.int .u32 as1,.agg a.c] (.agg (doneN r as1 a).c):=by
 refine zn Ts20.F139 (by simp [Ts20.F139,Fn.mkW]) fun σ => ?_
 simp only [Ts20.F139,Fn.mkW,Ts20.b139,yk]
 simp only [↓vcPre,↓z0,↓reduceIte,vcPost,vcStd,Nat.reduceEqDiff,reduceCtorEq,Nat.reduceAdd,Nat.reduceLeDiff,Int.reduceLT,Int.reduceLE,↓u_setN]
 refine AllocQ.i0 fun p3 h3 => ?_
 simp only [↓vcPre,↓z0,↓reduceIte,vcPost,vcStd,Nat.reduceEqDiff,reduceCtorEq,Nat.reduceAdd,Nat.reduceLeDiff,Int.reduceLT,Int.reduceLE,↓u_setN]
 refine AllocQ.i1 fun p5 h53 h35 h5 => ?_
 simp only [↓vcPre,↓z0,↓reduceIte,vcPost,vcStd,Nat.reduceEqDiff,reduceCtorEq,Nat.reduceAdd,Nat.reduceLeDiff,Int.reduceLT,Int.reduceLE,↓u_setN]
 refine AllocQ.i2 fun p6 h63 h36 h65 h56 h6 => ?_
 have sT:Store.sub σ (((σ.set p3 (.box r.c)).set p5 (.box a.c)).set p6 (.box zCells)):=za (zp h3 h5 h53) h6
 have T6:(((σ.set p3 (.box r.c)).set p5 (.box a.c)).set p6 (.box zCells)) p6=some (.box zCells):=Store.set_same _ _ _
 have T5:(((σ.set p3 (.box r.c)).set p5 (.box a.c)).set p6 (.box zCells)) p5=some (.box a.c):=by rw [Store.set_ne _ _ h56];exact Store.set_same _ _ _
 have T3:(((σ.set p3 (.box r.c)).set p5 (.box a.c)).set p6 (.box zCells)) p3=some (.box r.c):=by rw [Store.set_ne _ _ h36,Store.set_ne _ _ h35];exact Store.set_same _ _ _
 have e12:∀ y:Rule,y.c.length=12:=fun _=>rfl
 have e9:∀ y:At,y.c.length=9:=fun _=>rfl
 have t9:∀ y:At,List.take 9 y.c=y.c:=fun _=>rfl
 have r6:List.take 1 (List.drop 6 r.c)=[.bool r.sp]:=rfl
 have r7:List.take 1 (List.drop 7 r.c)=[.int .u32 r.pf]:=rfl
 have s5:splice 5 [.bool true] a.c=some ({ a with hp:=true }:At).c:=rfl
 have s6:splice 6 [.int .u32 r.pf] ({ a with hp:=true }:At).c=some ({ a with hp:=true,prf:=r.pf }:At).c:=rfl
 have fin:∀ t',Store.sub σ t'→t' p6=some (.box (doneN r as1 a).c)→(fun (e:Env) (τ:Store)=>((e.get 6).bind fun p=>Option.map AV.agg (rd τ 9 p))=some (AV.agg (doneN r as1 a).c)∧Store.sub σ τ) [(6,.ptr p6 0)] t':=fun t' h1 h2=>by
  refine ⟨?_,h1⟩
  have hr:rd t' 9 (.ptr p6 0)=some (doneN r as1 a).c:=by simp only [rd,h2];rfl
  simp [Env.get,hr]
 simp only [↓vcPre,↓z0,↓reduceIte,vcPost,vcStd,Nat.reduceEqDiff,reduceCtorEq,Nat.reduceAdd,Nat.reduceLeDiff,Int.reduceLT,Int.reduceLE,↓u_setN]
 generalize ((σ.set p3 (.box r.c)).set p5 (.box a.c)).set p6 (.box zCells)=T at sT T3 T5 T6 ⊢
 simp only [T3,r6,e12,↓vcPre,↓z0,↓reduceIte,vcPost,vcStd,Nat.reduceEqDiff,reduceCtorEq,Nat.reduceAdd,Nat.reduceLeDiff,Int.reduceLT,Int.reduceLE,↓u_setN]
 have hd:doneN r as1 a=canonA (commA r (canonA (pathA r as1 (medA r (prfA r a))))):=rfl
 unfold prfA at hd
 cases h:r.sp
 ·rw [h] at hd
  simp only [Bool.false_eq_true,if_false] at hd
  simp only [↓vcPre,↓z0,↓reduceIte,vcPost,vcStd,Nat.reduceEqDiff,reduceCtorEq,Nat.reduceAdd,Nat.reduceLeDiff,Int.reduceLT,Int.reduceLE,↓u_setN]
  refine z31 a ha ha2 ha3 zCells rfl h35 h65 T3 T5 T6 sT h5 h6 _ ?_
  rw [←hd]
  exact fin
 ·rw [h] at hd
  simp only [if_true] at hd
  simp only [T3,T5,r7,e12,e9,s5,s6,h35,h53,↓vcPre,↓z0,↓reduceIte,vcPost,vcStd,Nat.reduceEqDiff,reduceCtorEq,Nat.reduceAdd,Nat.reduceLeDiff,Int.reduceLT,Int.reduceLE,↓u_setN]
  rw [hd] at fin
  have key:=fun (n rr:Env→Store→Prop) (xx:Nat→Env→Store→Prop) (E:List (Nat×AV))=>z31 (as1:=as1) (n:=n) (rr:=rr) (xx:=xx) (T:=(T.set p5 (.box ({ a with hp:=true }:At).c)).set p5 (.box ({ a with hp:=true,prf:=r.pf }:At).c)) { a with hp:=true,prf:=r.pf } ha ha2 ha3 zCells rfl h35 h65 (((Store.set_ne _ _ h35).trans (Store.set_ne _ _ h35)).trans T3) (Store.set_same _ _ _) (((Store.set_ne _ _ h65).trans (Store.set_ne _ _ h65)).trans T6) (za (za sT h5) h5) h5 h6 E
  rw [hd]
  exact ⟨key _ _ _ [] fin,key _ _ _ [] fin⟩
end Go.Am
namespace Go.Am
open Go.Proofs Go.Sort
def applyA (rs:List Rule) (x:Int) (q:Int×Int) (a:At):At×Bool:=match rs.find? (fun r=>matchF r q a) with
 | none=>(canonA a,true)
 | some r=>if r.rj then (zeroAt,false) else (doneN r x a,true)
theorem z1q {α:Type} {p:α→Bool} {l:List α} {k:Nat} (hk:k<l.length) (h:(l.take k).find? p=none):l.find? p=if p l[k] then some l[k] else (l.drop (k+1)).find? p:=by
 have hsp:l=l.take k++(l[k]::l.drop (k+1)):=by rw [←List.drop_eq_getElem_cons hk,List.take_append_drop]
 rw [congrArg (List.find? p) hsp,List.find?_append,h,Option.none_or,List.find?_cons]
 cases p l[k] <;> rfl
theorem z0n {α:Type} {p:α→Bool} {l:List α} {k:Nat} (hk:k<l.length) (h:(l.take k).find? p=none) (h2:p l[k]=false):(l.take (k+1)).find? p=none:=by
 rw [List.take_succ_eq_append_getElem hk,List.find?_append,h,Option.none_or,List.find?_cons,h2];rfl
def zR12:List AV:=[AV.int .u32 0,.int .i64 0,.int .i64 0,.int .i64 0,.int .u32 0,.bool false,.bool false,.int .u32 0,.bool false,.int .u32 0,.int .i64 0,.int .u32 0]
theorem qh:[AV.int .u32 0,.int .i64 0,.int .i64 0,.int .i64 0,.int .u32 0,.bool false,.bool false,.int .u32 0,.bool false,.int .u32 0,.int .i64 0,.int .u32 0]=zR12:=rfl
set_option maxHeartbeats 1000000 in
theorem zgq {σ:Store} (rs:List Rule) (q:Int×Int) (as1:Int) (a:At) (ha:a.ok) (ha2:a.path.length≤900000) (ha3:a.cms.length≤900000) (hl:rs.length≤4611686018427387903) {lv:AV} (hr:Rd 12 σ (rs.map Rule.c) lv) :
 ACalls Tryz.prog 77 [lv,.int .u32 as1,.agg [.int .u32 q.1,.int .i64 q.2],.agg a.c] σ (fun v s=>s=σ∧v = .tup [.agg (applyA rs as1 q a).1.c,.bool (applyA rs as1 q a).2]):=by
 refine zk Tst.F77 (by simp [Tst.F77,Fn.mkX]) ?_
 simp only [Tst.F77,Fn.mkX,Tst.b77,yk,qh]
 simp only [↓vcPre,↓z0,↓reduceIte,vcPost,vcStd,Nat.reduceEqDiff,reduceCtorEq,Nat.reduceAdd,Nat.reduceLeDiff,Int.reduceLT,Int.reduceLE,↓u_setN]
 refine AllocQ.i0 fun p6 h6 => ?_
 simp only [↓vcPre,↓z0,↓reduceIte,vcPost,vcStd,Nat.reduceEqDiff,reduceCtorEq,Nat.reduceAdd,Nat.reduceLeDiff,Int.reduceLT,Int.reduceLE,↓u_setN]
 refine AllocQ.i1 fun p7 h76 h67 h7 => ?_
 simp only [↓vcPre,↓z0,↓reduceIte,vcPost,vcStd,Nat.reduceEqDiff,reduceCtorEq,Nat.reduceAdd,Nat.reduceLeDiff,Int.reduceLT,Int.reduceLE,↓u_setN]
 refine AllocQ.i2 fun p8 h86 h68 h87 h78 h8 => ?_
 have hlen:=hr.2
 rw [List.length_map] at hlen
 simp only [hlen,↓vcPre,↓z0,↓reduceIte,vcPost,vcStd,Nat.reduceEqDiff,reduceCtorEq,Nat.reduceAdd,Nat.reduceLeDiff,Int.reduceLT,Int.reduceLE,↓u_setN]
 have sT:Store.sub σ (((σ.set p6 (.box [.int .u32 q.1,.int .i64 q.2])).set p7 (.box a.c)).set p8 (.box zCells)):=za (zp h6 h7 h76) h8
 have T8:(((σ.set p6 (.box [.int .u32 q.1,.int .i64 q.2])).set p7 (.box a.c)).set p8 (.box zCells)) p8=some (.box zCells):=Store.set_same _ _ _
 have T7:(((σ.set p6 (.box [.int .u32 q.1,.int .i64 q.2])).set p7 (.box a.c)).set p8 (.box zCells)) p7=some (.box a.c):=by rw [Store.set_ne _ _ h78];exact Store.set_same _ _ _
 have T6:(((σ.set p6 (.box [.int .u32 q.1,.int .i64 q.2])).set p7 (.box a.c)).set p8 (.box zCells)) p6=some (.box [.int .u32 q.1,.int .i64 q.2]):=by rw [Store.set_ne _ _ h68,Store.set_ne _ _ h67];exact Store.set_same _ _ _
 generalize ((σ.set p6 (.box [.int .u32 q.1,.int .i64 q.2])).set p7 (.box a.c)).set p8 (.box zCells)=T at sT T8 T7 T6 ⊢
 have e12:∀ y:Rule,y.c.length=12:=fun _=>rfl
 have t12:∀ y:Rule,List.take 12 y.c=y.c:=fun _=>rfl
 have e9:∀ y:At,y.c.length=9:=fun _=>rfl
 have t9:∀ y:At,List.take 9 y.c=y.c:=fun _=>rfl
 have hz:∀ y:At,splice 0 y.c zCells=some y.c:=fun _=>rfl
 have hzz:splice 0 zCells zCells=some zCells:=rfl
 have z12:∀ r:Rule,splice 0 r.c zR12=some r.c:=fun _=>rfl
 have z9:zCells.length=9:=rfl
 have zr:zR12.length=12:=rfl
 have y9:List.take 9 zCells=zCells:=rfl
 refine LoopQ.inv (S:=Nat) (fun k=>[(1,.int .u32 as1),(6,.ptr p6 0),(7,.ptr p7 0),(8,.ptr p8 0),(12,lv),(13,.int .i64 (rs.length:Int)),(14,.int .i64 (k:Int))]) (fun _=>T) (fun k=>k≤rs.length∧(rs.take k).find? (fun r=>matchF r q a)=none) (fun k=>rs.length+1 - k) 0 rfl (Store.sub_refl _) ⟨by omega,by simp⟩ ?_
 rintro k ⟨hk,hf⟩
 simp only [↓vcPre,↓z0,↓reduceIte,vcPost,vcStd,Nat.reduceEqDiff,reduceCtorEq,Nat.reduceAdd,Nat.reduceLeDiff,Int.reduceLT,Int.reduceLE,↓u_setN]
 refine ⟨fun c1 => ?_,fun c1 => ?_⟩
 ·have c1':k<rs.length:=by omega
  have ek:IntKind.i64.wrap ((k:Int)+1)=((k+1:Nat):Int):=by rw [zd (by unfold I64;omega)];omega
  obtain ⟨p,hp,hrd⟩:=hr.at (k:=k) (by simpa using c1')
  have hrd':=hrd T sT 12
  have eg:(rs.map Rule.c)[k]'(by simpa using c1')=rs[k].c:=List.getElem_map ..
  rw [eg] at hrd'
  have tk:takeN 0 12 rs[k].c=some rs[k].c:=rfl
  rw [tk] at hrd'
  have hft:=z1q c1' hf
  have hft1:=z0n c1' hf
  generalize rs[k]=r at hrd' hft hft1
  simp only [hp,hrd',e12,t12,↓vcPre,↓z0,↓reduceIte,vcPost,vcStd,Nat.reduceEqDiff,reduceCtorEq,Nat.reduceAdd,Nat.reduceLeDiff,Int.reduceLT,Int.reduceLE,↓u_setN]
  refine AllocQ.i0 fun p11 h11 => ?_
  simp only [z12,zr,e12,↓vcPre,↓z0,↓reduceIte,vcPost,vcStd,Nat.reduceEqDiff,reduceCtorEq,Nat.reduceAdd,Nat.reduceLeDiff,Int.reduceLT,Int.reduceLE,↓u_setN]
  have n6:¬ p6=p11:=fun e=>by subst e;rw [T6] at h11;cases h11
  have n7:¬ p7=p11:=fun e=>by subst e;rw [T7] at h11;cases h11
  have n8:¬ p8=p11:=fun e=>by subst e;rw [T8] at h11;cases h11
  have sU:Store.sub T ((T.set p11 (.box zR12)).set p11 (.box r.c)):=za (Store.sub_set _ _ _ h11) h11
  have U11:((T.set p11 (.box zR12)).set p11 (.box r.c)) p11=some (.box r.c):=Store.set_same _ _ _
  generalize (T.set p11 (.box zR12)).set p11 (.box r.c)=U at sU U11 ⊢
  have U6:=sU _ _ T6
  have U7:=sU _ _ T7
  have U8:=sU _ _ T8
  simp only [U6,U7,U11,e9,t9,e12,t12,↓vcPre,↓z0,↓reduceIte,vcPost,vcStd,Nat.reduceEqDiff,reduceCtorEq,Nat.reduceAdd,Nat.reduceLeDiff,Int.reduceLT,Int.reduceLE,↓u_setN]
  have sU2:=Store.sub_trans sT sU
  have g5:List.take 1 (List.drop 5 r.c)=[.bool r.rj]:=rfl
  cases hm:matchF r q a
  ·have hM:=zbe r q a ha.2.2
   rw [hm] at hM
   refine hM.Q ?_
   simp only [ek,↓vcPre,↓z0,↓reduceIte,vcPost,vcStd,Nat.reduceEqDiff,reduceCtorEq,Nat.reduceAdd,Nat.reduceLeDiff,Int.reduceLT,Int.reduceLE,↓u_setN]
   exact NextQ.to (k+1) rfl sU (by omega) ⟨by omega,hft1 hm⟩
  ·have hM:=zbe r q a ha.2.2
   rw [hm] at hM
   refine hM.Q ?_
   rw [hm] at hft
   simp only [if_true] at hft
   simp only [U11,g5,e12,t12,↓vcPre,↓z0,↓reduceIte,vcPost,vcStd,Nat.reduceEqDiff,reduceCtorEq,Nat.reduceAdd,Nat.reduceLeDiff,Int.reduceLT,Int.reduceLE,↓u_setN]
   cases hj:r.rj
   ·have hA:applyA rs as1 q a=(doneN r as1 a,true):=by unfold applyA;rw [hft];simp [hj]
    rw [hA]
    simp only [U7,U11,e9,t9,e12,t12,↓vcPre,↓z0,↓reduceIte,vcPost,vcStd,Nat.reduceEqDiff,reduceCtorEq,Nat.reduceAdd,Nat.reduceLeDiff,Int.reduceLT,Int.reduceLE,↓u_setN]
    refine (zdo r as1 a ha ha2 ha3).Q ?_
    simp only [U8,e9,t9,hz,↓vcPre,↓z0,↓reduceIte,vcPost,vcStd,Nat.reduceEqDiff,reduceCtorEq,Nat.reduceAdd,Nat.reduceLeDiff,Int.reduceLT,Int.reduceLE,↓u_setN]
    refine EndQ.to σ (.tup [.agg (doneN r as1 a).c,.bool true]) ?_ (za sU2 h8) ⟨rfl,rfl⟩
    show Env.res [(8,AV.ptr p8 0),(9,.bool true)] _ [RS.c 8 9 true,RS.t 9]=_
    simp only [Store.set_same,e9,t9,Nat.le_refl,↓vcPre,↓z0,↓reduceIte,vcPost,vcStd,Nat.reduceEqDiff,reduceCtorEq,Nat.reduceAdd,Nat.reduceLeDiff,Int.reduceLT,Int.reduceLE,↓u_setN]
   ·have hA:applyA rs as1 q a=(zeroAt,false):=by unfold applyA;rw [hft];simp [hj]
    rw [hA]
    simp only [U8,hzz,z9,↓vcPre,↓z0,↓reduceIte,vcPost,vcStd,Nat.reduceEqDiff,reduceCtorEq,Nat.reduceAdd,Nat.reduceLeDiff,Int.reduceLT,Int.reduceLE,↓u_setN]
    refine EndQ.two (.agg zCells) (.bool false) σ ?_ ?_
    ·show Env.res [(8,AV.ptr p8 0),(9,.bool false)] _ [RS.c 8 9 true,RS.t 9]=_
     simp only [Store.set_same,z9,y9,Nat.le_refl,↓vcPre,↓z0,↓reduceIte,vcPost,vcStd,Nat.reduceEqDiff,reduceCtorEq,Nat.reduceAdd,Nat.reduceLeDiff,Int.reduceLT,Int.reduceLE,↓u_setN]
    ·exact WeakL.pos 0 rfl (vg (WeakL.forget (za sU2 h8) (WeakL.pure ⟨rfl,rfl⟩)))
 ·have hkl:rs.take k=rs:=List.take_of_length_le (by omega)
  rw [hkl] at hf
  have hA:applyA rs as1 q a=(canonA a,true):=by unfold applyA;rw [hf]
  rw [hA]
  simp only [T7,e9,t9,↓vcPre,↓z0,↓reduceIte,vcPost,vcStd,Nat.reduceEqDiff,reduceCtorEq,Nat.reduceAdd,Nat.reduceLeDiff,Int.reduceLT,Int.reduceLE,↓u_setN]
  refine (c74 a ha).Q ?_
  simp only [T8,e9,t9,hz,↓vcPre,↓z0,↓reduceIte,vcPost,vcStd,Nat.reduceEqDiff,reduceCtorEq,Nat.reduceAdd,Nat.reduceLeDiff,Int.reduceLT,Int.reduceLE,↓u_setN]
  refine EndQ.to σ (.tup [.agg (canonA a).c,.bool true]) ?_ (za sT h8) ⟨rfl,rfl⟩
  show Env.res [(8,AV.ptr p8 0),(9,.bool true)] _ [RS.c 8 9 true,RS.t 9]=_
  simp only [Store.set_same,e9,t9,Nat.le_refl,↓vcPre,↓z0,↓reduceIte,vcPost,vcStd,Nat.reduceEqDiff,reduceCtorEq,Nat.reduceAdd,Nat.reduceLeDiff,Int.reduceLT,Int.reduceLE,↓u_setN]
end Go.Am
namespace Go.Am
open Go.Proofs Go.Sort
def ruleOk (r:Rule):Bool:=rightF r.ad r.ln && (decide (0≤r.fr) && (decide (r.fr≤r.tl) && (decide (r.tl≤32) && (decide (0≤r.pp) && (decide (r.pp≤10) && ((r.sp || decide (r.pf=0)) && (r.sm || decide (r.md=0))))))))
theorem zfz (r:Rule):Pur Tryz.prog 205 [.agg r.c] (.bool (ruleOk r)):=by
 refine zn Tst.F205 (by simp [Tst.F205,Fn.mkX]) fun σ => ?_
 simp only [Tst.F205,Fn.mkX,Tst.b205]
 simp only [↓vcPre,↓z0,↓reduceIte,vcPost,vcStd,Nat.reduceEqDiff,reduceCtorEq,Nat.reduceAdd,Nat.reduceLeDiff,Int.reduceLT,Int.reduceLE,↓u_setN]
 refine AllocQ.i0 fun p hp => ?_
 have e12:r.c.length=12:=rfl
 have t2:List.take 2 r.c=[.int .u32 r.ad,.int .i64 r.ln]:=rfl
 have f2:List.take 1 (List.drop 2 r.c)=[.int .i64 r.fr]:=rfl
 have f3:List.take 1 (List.drop 3 r.c)=[.int .i64 r.tl]:=rfl
 have f6:List.take 1 (List.drop 6 r.c)=[.bool r.sp]:=rfl
 have f7:List.take 1 (List.drop 7 r.c)=[.int .u32 r.pf]:=rfl
 have f8:List.take 1 (List.drop 8 r.c)=[.bool r.sm]:=rfl
 have f9:List.take 1 (List.drop 9 r.c)=[.int .u32 r.md]:=rfl
 have f10:List.take 1 (List.drop 10 r.c)=[.int .i64 r.pp]:=rfl
 simp only [e12,t2,↓vcPre,↓z0,↓reduceIte,vcPost,vcStd,Nat.reduceEqDiff,reduceCtorEq,Nat.reduceAdd,Nat.reduceLeDiff,Int.reduceLT,Int.reduceLE,↓u_setN]
 refine (c71 r.ad r.ln).Q ?_
 have sT:=Store.sub_set σ p (.box r.c) hp
 cases h1:rightF r.ad r.ln
 ·simp only [↓vcPre,↓z0,↓reduceIte,vcPost,vcStd,Nat.reduceEqDiff,reduceCtorEq,Nat.reduceAdd,Nat.reduceLeDiff,Int.reduceLT,Int.reduceLE,↓u_setN]
  simp [sT,ruleOk,h1]
 ·cases h2:r.sp <;> cases h3:r.sm
  all_goals
   simp only [e12,f2,f3,f6,f7,f8,f9,f10,h2,h3,↓vcPre,↓z0,↓reduceIte,vcPost,vcStd,Nat.reduceEqDiff,reduceCtorEq,Nat.reduceAdd,Nat.reduceLeDiff,Int.reduceLT,Int.reduceLE,↓u_setN]
   simp+contextual [sT,ruleOk,h1,h2,h3] <;> omega
theorem zfy (r:Rule):Pur Tryz.prog 204 [.agg r.c] (.bool (!ruleOk r)):=by
 refine zn Tst.F204 (by simp [Tst.F204,Fn.mkX]) fun σ => ?_
 simp only [Tst.F204,Fn.mkX,Tst.b204]
 have e12:r.c.length=12:=rfl
 have t12:List.take 12 r.c=r.c:=rfl
 simp only [↓vcPre,↓z0,↓reduceIte,vcPost,vcStd,Nat.reduceEqDiff,reduceCtorEq,Nat.reduceAdd,Nat.reduceLeDiff,Int.reduceLT,Int.reduceLE,↓u_setN]
 refine AllocQ.i0 fun i hi => ?_
 simp only [e12,t12,↓vcPre,↓z0,↓reduceIte,vcPost,vcStd,Nat.reduceEqDiff,reduceCtorEq,Nat.reduceAdd,Nat.reduceLeDiff,Int.reduceLT,Int.reduceLE,↓u_setN]
 refine (zfz r).Q ?_
 simp only [↓vcPre,↓z0,↓reduceIte,vcPost,vcStd,Nat.reduceEqDiff,reduceCtorEq,Nat.reduceAdd,Nat.reduceLeDiff,Int.reduceLT,Int.reduceLE,↓u_setN]
 exact Store.sub_set _ _ _ hi
theorem z24 {α:Type} {p:α→Bool} {l:List α} {k:Nat} (h:k<l.length) (hp:p l[k]=false):l.all p=false:=by
 rw [Bool.eq_false_iff];intro h2
 rw [List.all_eq_true] at h2
 have:=h2 _ (List.getElem_mem h)
 rw [hp] at this;cases this
theorem z1l {α:Type} {p:α→Bool} {l:List α} {k:Nat} (h:k<l.length) (h2:(l.take k).all p=true) (hp:p l[k]=true):(l.take (k+1)).all p=true:=by
 rw [List.take_succ_eq_append_getElem h,List.all_append,h2];simp [hp]
theorem zgn {σ:Store} (l:List Rule) (hl:l.length≤4611686018427387903) {lv:AV} (hr:Rd 12 σ (l.map Rule.c) lv):ACalls Tryz.prog 222 [lv,.fn 204 []] σ (fun r s=>s=σ∧∃ k:Int,r = .int .i64 k∧decide (0≤k) = !(l.all ruleOk)):=by
 refine zk Tst.F222 (by simp [Tst.F222,Fn.mkX]) ?_
 simp only [Tst.F222,Fn.mkX,Tst.b222]
 have hlen:=hr.2
 rw [List.length_map] at hlen
 simp only [hlen,↓vcPre,↓z0,↓reduceIte,vcPost,vcStd,Nat.reduceEqDiff,reduceCtorEq,Nat.reduceAdd,Nat.reduceLeDiff,Int.reduceLT,Int.reduceLE,↓u_setN]
 refine LoopQ.inv (S:=Nat) (fun k=>[(0,lv),(1,.fn 204 []),(7,.int .i64 (l.length:Int)),(8,.int .i64 (k:Int))]) (fun _=>σ) (fun k=>k≤l.length∧(l.take k).all ruleOk=true) (fun k=>l.length+1 - k) 0 rfl (Store.sub_refl _) ⟨by omega,by simp⟩ ?_
 rintro k ⟨hk,hrk⟩
 simp only [↓vcPre,↓z0,↓reduceIte,vcPost,vcStd,Nat.reduceEqDiff,reduceCtorEq,Nat.reduceAdd,Nat.reduceLeDiff,Int.reduceLT,Int.reduceLE,↓u_setN]
 refine ⟨fun c1 => ?_,fun c1 => ?_⟩
 ·have ek:IntKind.i64.wrap ((k:Int)+1)=((k+1:Nat):Int):=by rw [zd (by unfold I64;omega)];omega
  obtain ⟨p,hp,hrd⟩:=hr.at (k:=k) (by simpa using c1)
  have hrd':=hrd σ (Store.sub_refl _) 12
  have eg:(l.map Rule.c)[k]'(by simpa using c1)=l[k].c:=List.getElem_map ..
  rw [eg] at hrd'
  have tk:takeN 0 12 l[k].c=some l[k].c:=rfl
  rw [tk] at hrd'
  have e12:l[k].c.length=12:=rfl
  simp only [hp,hrd',e12,↓vcPre,↓z0,↓reduceIte,vcPost,vcStd,Nat.reduceEqDiff,reduceCtorEq,Nat.reduceAdd,Nat.reduceLeDiff,Int.reduceLT,Int.reduceLE,↓u_setN]
  have hc:=zfy l[k]
  cases g:ruleOk l[k]
  ·rw [g] at hc
   refine hc.Q ?_
   simp only [↓vcPre,↓z0,↓reduceIte,vcPost,vcStd,Nat.reduceEqDiff,reduceCtorEq,Nat.reduceAdd,Nat.reduceLeDiff,Int.reduceLT,Int.reduceLE,↓u_setN]
   refine EndQ.to _ _ rfl (Store.sub_refl _) ⟨rfl,_,rfl,?_⟩
   rw [z24 c1 g];simp
  ·rw [g] at hc
   refine hc.Q ?_
   simp only [↓vcPre,↓z0,↓reduceIte,vcPost,vcStd,Nat.reduceEqDiff,reduceCtorEq,Nat.reduceAdd,Nat.reduceLeDiff,Int.reduceLT,Int.reduceLE,↓u_setN]
   rw [ek]
   exact NextQ.to (k+1) rfl (Store.sub_refl _) (by omega) ⟨by omega,z1l c1 hrk g⟩
 ·have e:l.take k=l:=List.take_of_length_le (by omega)
  rw [e] at hrk
  exact EndQ.to _ _ rfl (Store.sub_refl _) ⟨rfl,_,rfl,by rw [hrk];rfl⟩
theorem zgm {σ:Store} (l:List Rule) (hl:l.length≤4611686018427387903) {lv:AV} (hr:Rd 12 σ (l.map Rule.c) lv):ACalls Tryz.prog 203 [lv,.fn 204 []] σ (fun r s=>s=σ∧r = .bool (!(l.all ruleOk))):=by
 refine zk Tst.F203 (by simp [Tst.F203,Fn.mkX]) ?_
 simp only [Tst.F203,Fn.mkX,Tst.b203]
 simp only [↓vcPre,↓z0,↓reduceIte,vcPost,vcStd,Nat.reduceEqDiff,reduceCtorEq,Nat.reduceAdd,Nat.reduceLeDiff,Int.reduceLT,Int.reduceLE,↓u_setN]
 refine (zgn l hl hr).Q ?_
 rintro r s ⟨rfl,k,rfl,hk⟩
 simp only [↓vcPre,↓z0,↓reduceIte,vcPost,vcStd,Nat.reduceEqDiff,reduceCtorEq,Nat.reduceAdd,Nat.reduceLeDiff,Int.reduceLT,Int.reduceLE,↓u_setN]
 exact EndQ.to _ _ rfl (Store.sub_refl _) ⟨rfl,by rw [hk]⟩
def rulesOk (l:List Rule):Bool:=decide (l.length≤16) && l.all ruleOk
theorem zgj {σ:Store} (l:List Rule) (hl:l.length≤4611686018427387903) {lv:AV} (hr:Rd 12 σ (l.map Rule.c) lv):ACalls Tryz.prog 168 [lv] σ (fun r s=>s=σ∧r = .bool (rulesOk l)):=by
 refine zk Tst.F168 (by simp [Tst.F168,Fn.mkX]) ?_
 simp only [Tst.F168,Fn.mkX,Tst.b168]
 have hlen:=hr.2
 rw [List.length_map] at hlen
 simp only [hlen,↓vcPre,↓z0,↓reduceIte,vcPost,vcStd,Nat.reduceEqDiff,reduceCtorEq,Nat.reduceAdd,Nat.reduceLeDiff,Int.reduceLT,Int.reduceLE,↓u_setN]
 unfold rulesOk
 refine ⟨fun c1 => ?_,fun c1 => ?_⟩
 ·refine (zgm l hl hr).Q ?_
  rintro r s ⟨rfl,rfl⟩
  simp only [↓vcPre,↓z0,↓reduceIte,vcPost,vcStd,Nat.reduceEqDiff,reduceCtorEq,Nat.reduceAdd,Nat.reduceLeDiff,Int.reduceLT,Int.reduceLE,↓u_setN]
  exact EndQ.to _ _ rfl (Store.sub_refl _) ⟨rfl,by rw [show decide (l.length≤16)=true by simp;omega];rfl⟩
 ·exact EndQ.to _ _ rfl (Store.sub_refl _) ⟨rfl,by rw [show decide (l.length≤16)=false by simp;omega];rfl⟩
set_option maxRecDepth 10000 in
theorem zgi {σ:Store} (l:List Rule) (hl:l.length≤4611686018427387903) {lv:AV} (hr:Rd 12 σ (l.map Rule.c) lv):ACalls Tryz.prog 144 [lv] σ (fun r s=>s=σ∧r = .bool (rulesOk l)):=by
 refine zk Tst.F144 (by simp [Tst.F144,Fn.mkX]) ?_
 simp only [Tst.F144,Fn.mkX,Tst.b144,qh]
 have hlen:=hr.2
 rw [List.length_map] at hlen
 simp only [↓vcPre,↓z0,↓reduceIte,vcPost,vcStd,Nat.reduceEqDiff,reduceCtorEq,Nat.reduceAdd,Nat.reduceLeDiff,Int.reduceLT,Int.reduceLE,↓u_setN]
 refine LoopQ.inv (S:=Nat) (fun k=>[(0,lv),(3,.int .i64 (k:Int))]) (fun _=>σ) (fun k=>k≤l.length∧(l.take k).all ruleOk=true) (fun k=>l.length+1 - k) 0 rfl (Store.sub_refl _) ⟨by omega,by simp⟩ ?_
 rintro k ⟨hk,hrk⟩
 simp only [hlen,↓vcPre,↓z0,↓reduceIte,vcPost,vcStd,Nat.reduceEqDiff,reduceCtorEq,Nat.reduceAdd,Nat.reduceLeDiff,Int.reduceLT,Int.reduceLE,↓u_setN]
 refine ⟨fun c1 => ?_,fun c1 => ?_⟩
 ·have ek:IntKind.i64.wrap ((k:Int)+1)=((k+1:Nat):Int):=by rw [zd (by unfold I64;omega)];omega
  have c1':k<l.length:=by omega
  obtain ⟨p,hp,hrd⟩:=hr.at (k:=k) (by simpa using c1')
  have hrd':=hrd σ (Store.sub_refl _) 12
  have eg:(l.map Rule.c)[k]'(by simpa using c1')=l[k].c:=List.getElem_map ..
  rw [eg] at hrd'
  have tk:takeN 0 12 l[k].c=some l[k].c:=rfl
  rw [tk] at hrd'
  have hA:=z24 (p:=ruleOk) c1'
  have hB:=z1l (p:=ruleOk) c1' hrk
  generalize hrr:l[k]=r at hrd' hA hB
  have e12:r.c.length=12:=rfl
  have z12:splice 0 r.c zR12=some r.c:=rfl
  have zr:zR12.length=12:=rfl
  simp only [hp,hrd',e12,z12,zr,↓vcPre,↓z0,↓reduceIte,vcPost,vcStd,Nat.reduceEqDiff,reduceCtorEq,Nat.reduceAdd,Nat.reduceLeDiff,Int.reduceLT,Int.reduceLE,↓u_setN]
  refine AllocQ.i0 fun i hi => ?_
  have t2:List.take 2 r.c=[.int .u32 r.ad,.int .i64 r.ln]:=rfl
  have f2:List.take 1 (List.drop 2 r.c)=[.int .i64 r.fr]:=rfl
  have f3:List.take 1 (List.drop 3 r.c)=[.int .i64 r.tl]:=rfl
  have f6:List.take 1 (List.drop 6 r.c)=[.bool r.sp]:=rfl
  have f7:List.take 1 (List.drop 7 r.c)=[.int .u32 r.pf]:=rfl
  have f8:List.take 1 (List.drop 8 r.c)=[.bool r.sm]:=rfl
  have f9:List.take 1 (List.drop 9 r.c)=[.int .u32 r.md]:=rfl
  have f10:List.take 1 (List.drop 10 r.c)=[.int .i64 r.pp]:=rfl
  have sT:Store.sub σ ((σ.set i (.box zR12)).set i (.box r.c)):=za (Store.sub_set _ _ _ hi) hi
  simp only [e12,t2,z12,zr,↓vcPre,↓z0,↓reduceIte,vcPost,vcStd,Nat.reduceEqDiff,reduceCtorEq,Nat.reduceAdd,Nat.reduceLeDiff,Int.reduceLT,Int.reduceLE,↓u_setN]
  refine (c80 r.ad r.ln).Q ?_
  have no:ruleOk r=false → @EndQ [(2,.bool false)] ((σ.set i (.box zR12)).set i (.box r.c)) ⟨Tst.F144.slots,fun r s=>s=σ∧r = .bool (rulesOk l)⟩:=fun h =>
   EndQ.to _ _ rfl sT ⟨rfl,by unfold rulesOk;rw [hA h];simp⟩
  cases h1:rightF r.ad r.ln
  ·simp only [↓vcPre,↓z0,↓reduceIte,vcPost,vcStd,Nat.reduceEqDiff,reduceCtorEq,Nat.reduceAdd,Nat.reduceLeDiff,Int.reduceLT,Int.reduceLE,↓u_setN]
   exact no (by simp [ruleOk,h1])
  ·cases h2:r.sp <;> cases h3:r.sm
   all_goals
    simp only [e12,f2,f3,f6,f7,f8,f9,f10,h2,h3,ek,↓vcPre,↓z0,↓reduceIte,vcPost,vcStd,Nat.reduceEqDiff,reduceCtorEq,Nat.reduceAdd,Nat.reduceLeDiff,Int.reduceLT,Int.reduceLE,↓u_setN]
    have hP:ruleOk r=true↔(0≤r.fr∧r.fr≤r.tl∧r.tl≤32∧0≤r.pp∧r.pp≤10)∧(r.sp=true∨r.pf=0)∧(r.sm=true∨r.md=0):=by
     simp [ruleOk,h1,and_assoc]
    rw [h2,h3] at hP
    simp only [Bool.false_eq_true,false_or,true_or,and_true,true_and] at hP
    have hN:¬ (ruleOk r=true)→ruleOk r=false:=by cases ruleOk r <;> simp
    repeat' (first | refine ⟨fun _ => ?_,fun _ => ?_⟩ | intro _)
    all_goals first
     | exact no (hN (by rw [hP];omega))
     | exact NextQ.to (k+1) rfl sT (by omega) ⟨by omega,hB (hP.2 (by omega))⟩
 ·have e:l.take k=l:=List.take_of_length_le (by omega)
  rw [e] at hrk
  refine EndQ.to _ _ rfl (Store.sub_refl _) ⟨rfl,?_⟩
  unfold rulesOk
  rw [hrk]
  have:decide ((l.length:Int)≤16)=decide (l.length≤16):=by rw [decide_eq_decide];omega
  simp [this]
end Go.Am
namespace Go.Am
open Go.Proofs Go.Sort
theorem z6i (E:Env) (L:List Int) (n:Int) (k:Nat) (hk:k≤L.length) (hL:L.length≤1000000) {s:Store} {nn rr:Env→Store→Prop} {x:Nat→Env→Store→Prop}
 (hr:∀ j s',Store.sub s s'→s j=none→s' j=some (.arr 1 ((L.take k++n::L.drop k).map cU))→rr [(4,.os j 1 0 (L.length+1))] s') :
 bwp Tryz.prog Tsf.t40_34 ((0,.sl 1 (L.map cU))::(1,.int .u32 n)::(5,.int .i64 (k:Int))::E) s nn rr x:=by
 simp only [Tsf.t40_34]
 simp only [↓vcPre,↓z0,↓reduceIte,vcPost,vcStd,Nat.reduceEqDiff,reduceCtorEq,Nat.reduceAdd,Nat.reduceLeDiff,Int.reduceLT,Int.reduceLE,↓u_setN]
 have e0:∀ l:List (List AV),List.drop (Int.toNat 0) l=l:=fun _=>rfl
 have eA:List.take k (L.map cU)=(L.take k).map cU:=by rw [List.map_take]
 have eB:List.drop k (L.map cU)=(L.drop k).map cU:=by rw [List.map_drop]
 have eT:List.take L.length (L.map cU)=L.map cU:=List.take_of_length_le (by simp)
 have lA:((L.take k).map cU).length=k:=by simp;omega
 have hA:∀ t,Store.sub s t→slc t 1 (.sl 1 ((L.take k).map cU))=some ((L.take k).map cU):=fun _ _=>yw
 have hB:∀ t,Store.sub s t→slc t 1 (.sl 1 ((L.drop k).map cU))=some ((L.drop k).map cU):=fun _ _=>yw
 have hz:∀ m:Nat,m=((L.take k).map cU).length+1+((L.drop k).map cU).length→m=L.length+1:=fun m h=>by rw [h,lA];simp;omega
 have hsz:(((L.take k).map cU).length+1+((L.drop k).map cU).length)*4≤140737488355328:=by rw [lA];simp;omega
 have fin:∀ j s',Store.sub s s'→s j=none→s' j=some (.arr 1 ((L.take k).map cU++cU n::(L.drop k).map cU))→rr [(4,.os j 1 0 (((L.take k).map cU).length+1+((L.drop k).map cU).length))] s':=fun j s' p1 p2 p3=>by
  rw [hz _ rfl];exact hr j s' p1 p2 (by rw [p3];simp)
 refine ⟨⟨by simp,by simp;omega⟩,⟨by simp;omega,by simp⟩,?_,?_⟩
 ·refine AllocQ.i0 fun i hi => ?_
  simp only [Option.getD_some,Option.getD_none,Int.toNat_natCast,e0,eA,eB,eT,↓vcPre,↓z0,↓reduceIte,vcPost,vcStd,Nat.reduceEqDiff,reduceCtorEq,Nat.reduceAdd,Nat.reduceLeDiff,Int.reduceLT,Int.reduceLE,↓u_setN]
  refine ⟨?_,?_⟩
  ·refine Own.appN (τ:=s) (g:=i) (L:=[]) (ys:=(L.take k).map cU) (Store.sub_set _ _ _ hi) hi (Store.set_same _ _ _) yw (by rw [lA];simp;omega) fun j s1 q1 q2 q3 => ?_
   refine AllocQ.i0 fun b hb => ?_
   have hjb:b≠j:=fun e=>by subst e;rw [q3] at hb;cases hb
   simp only [List.length_nil,Nat.zero_add,List.nil_append] at q3 ⊢
   simp only [Option.getD_some,Option.getD_none,Int.toNat_natCast,e0,eA,eB,eT,↓vcPre,↓z0,↓reduceIte,vcPost,vcStd,Nat.reduceEqDiff,reduceCtorEq,Nat.reduceAdd,Nat.reduceLeDiff,Int.reduceLT,Int.reduceLE,↓u_setN]
   rw [show (L.take k).length=((L.take k).map cU).length by simp]
   refine z05 (Store.sub_trans q1 (Store.sub_set _ b _ hb)) q2 (Store.sub_set _ b _ hb _ _ q3) (Store.set_same _ _ _) hB hsz fun j2 s2 p1 p2 p3 => ?_
   exact fin j2 s2 p1 p2 p3
  ·refine AllocQ.i0 fun b hb => ?_
   simp only [Option.getD_some,Option.getD_none,Int.toNat_natCast,e0,eA,eB,eT,↓vcPre,↓z0,↓reduceIte,vcPost,vcStd,Nat.reduceEqDiff,reduceCtorEq,Nat.reduceAdd,Nat.reduceLeDiff,Int.reduceLT,Int.reduceLE,↓u_setN]
   have hbi:b≠i:=fun e=>by subst e;rw [Store.set_same] at hb;cases hb
   rw [Store.set_ne _ _ hbi] at hb
   refine qj (zp hi hb hbi) hi hb hbi (by rw [Store.set_ne _ _ (fun e=>hbi e.symm),Store.set_same]) (Store.set_same _ _ _) hA hB hsz fun j2 s2 p1 p2 p3 => ?_
   exact fin j2 s2 p1 p2 p3
 ·refine AllocQ.i0 fun b hb => ?_
  simp only [Option.getD_some,Option.getD_none,Int.toNat_natCast,e0,eA,eB,eT,↓vcPre,↓z0,↓reduceIte,vcPost,vcStd,Nat.reduceEqDiff,reduceCtorEq,Nat.reduceAdd,Nat.reduceLeDiff,Int.reduceLT,Int.reduceLE,↓u_setN]
  refine AllocQ.i0 fun i hi => ?_
  simp only [Option.getD_some,Option.getD_none,Int.toNat_natCast,e0,eA,eB,eT,↓vcPre,↓z0,↓reduceIte,vcPost,vcStd,Nat.reduceEqDiff,reduceCtorEq,Nat.reduceAdd,Nat.reduceLeDiff,Int.reduceLT,Int.reduceLE,↓u_setN]
  have hib:i≠b:=fun e=>by subst e;rw [Store.set_same] at hi;cases hi
  rw [Store.set_ne _ _ hib] at hi
  refine qj (zp hb hi hib) hi hb (fun e=>hib e.symm) (Store.set_same _ _ _) (by rw [Store.set_ne _ _ (fun e=>hib e.symm),Store.set_same]) hA hB hsz fun j2 s2 p1 p2 p3 => ?_
  exact fin j2 s2 p1 p2 p3
theorem zgp {s:Store} (L:List Int) (n:Int) (hL:L.length≤1000000):ACalls Tryz.prog 40 [.sl 1 (L.map cU),.int .u32 n] s (fun r s'=>Store.sub s s'∧(r = .sl 1 ((putL L n).map cU)∨∃ j,r = .os j 1 0 (putL L n).length∧s j=none∧s' j=some (.arr 1 ((putL L n).map cU)))):=by
 refine zk Tsf.F40 (by simp [Tsf.F40,Fn.mkX]) ?_
 simp only [Tsf.F40,Fn.mkX,Tsf.b40]
 simp only [↓vcPre,↓z0,↓reduceIte,vcPost,vcStd,Nat.reduceEqDiff,reduceCtorEq,Nat.reduceAdd,Nat.reduceLeDiff,Int.reduceLT,Int.reduceLE,↓u_setN]
 refine LoopQ.inv (S:=Nat) (fun k=>[(0,.sl 1 (L.map cU)),(1,.int .u32 n),(5,.int .i64 (k:Int))]) (fun _=>s) (fun k=>k≤L.length∧∀ i (h:i<L.length),i<k→L[i]<n) (fun k=>L.length+1 - k) 0 rfl (Store.sub_refl _) ⟨by omega,fun i _ h=>by omega⟩ ?_
 rintro k ⟨hk,hlt⟩
 simp only [Nat.zero_add,↓vcPre,↓z0,↓reduceIte,vcPost,vcStd,Nat.reduceEqDiff,reduceCtorEq,Nat.reduceAdd,Nat.reduceLeDiff,Int.reduceLT,Int.reduceLE,↓u_setN]
 have ek:IntKind.i64.wrap ((k:Int)+1)=((k+1:Nat):Int):=by rw [zd (by unfold I64;omega)];omega
 have hput:=z47 hk hlt
 have tail:(∀ h:k<L.length,n<L[k])→∀ E,bwp Tryz.prog Tsf.t40_34 ((0,.sl 1 (L.map cU))::(1,.int .u32 n)::(5,.int .i64 (k:Int))::E) s (fun e τ' => @EndQ e τ' ⟨Tsf.F40.slots,fun r s'=>Store.sub s s'∧(r = .sl 1 ((putL L n).map cU)∨∃ j,r = .os j 1 0 (putL L n).length∧s j=none∧s' j=some (.arr 1 ((putL L n).map cU)))⟩) (fun e τ' => @EndQ e τ' ⟨Tsf.F40.slots,fun r s'=>Store.sub s s'∧(r = .sl 1 ((putL L n).map cU)∨∃ j,r = .os j 1 0 (putL L n).length∧s j=none∧s' j=some (.arr 1 ((putL L n).map cU)))⟩) fun _ _ _=>False:=fun hkn E=>by
  have hpl:putL L n=L.take k++n::L.drop k:=by
   rw [hput]
   by_cases c1:k<L.length
   ·have:=hkn c1
    rw [List.drop_eq_getElem_cons c1]
    simp only [putL]
    rw [if_neg (by omega),if_neg (by omega)]
   ·rw [List.drop_eq_nil_of_le (by omega)];rfl
  refine z6i E L n k hk hL fun j s' h1 h2 h3 => ?_
  refine EndQ.to s' (.os j 1 0 (L.length+1)) rfl (Store.sub_refl _) ⟨h1,.inr ⟨j,?_,h2,by rw [hpl];exact h3⟩⟩
  rw [hpl];simp;omega
 have hpl:∀ h:k<L.length,L[k]=n→putL L n=L:=fun c1 g2=>by
  rw [hput,List.drop_eq_getElem_cons c1]
  simp only [putL]
  rw [if_neg (by omega),if_pos g2,←List.drop_eq_getElem_cons c1,List.take_append_drop]
 refine ⟨fun c1=>⟨c1,by simp [cU],?_⟩,fun c1 => ?_⟩
 ·simp only [cU,↓vcPre,↓z0,↓reduceIte,vcPost,vcStd,Nat.reduceEqDiff,reduceCtorEq,Nat.reduceAdd,Nat.reduceLeDiff,Int.reduceLT,Int.reduceLE,↓u_setN]
  refine ⟨fun g1 => ?_,fun g1=>⟨fun _=>⟨c1,?_⟩,fun c2=>absurd c1 c2⟩⟩
  ·rw [ek]
   refine NextQ.to (k+1) rfl (Store.sub_refl _) (by omega) ⟨by omega,fun i hi hik => ?_⟩
   by_cases hik':i=k
   ·subst hik';exact g1
   ·exact hlt i hi (by omega)
  ·refine ⟨fun g2 => ?_,fun g2=>tail (fun _=>by omega) _⟩
   exact EndQ.to s (.sl 1 (L.map cU)) rfl (Store.sub_refl _) ⟨Store.sub_refl _,.inl (by rw [hpl c1 g2])⟩
 ·exact ⟨fun c2=>absurd c2 c1,fun _=>tail (fun h=>absurd h c1) _⟩
theorem zbk (L:List Int) (n:Int) (hL:L.length≤1000000):Pur Tryz.prog 40 [.sl 1 (L.map cU),.int .u32 n] (.sl 1 ((putL L n).map cU)):=by
 intro σ
 refine (zgp L n hL).weakRes ?_
 rintro r s ⟨hs,rfl | ⟨j,rfl,h1,h2⟩⟩
 ·exact Weak.forget hs (Weak.pure ⟨rfl,rfl⟩)
 ·refine Weak.ofE (WeakE.frz 0 rfl h2 (by simp) (WeakE.forget (sub_del hs h1) (WeakE.pure ⟨_,rfl,rfl,?_⟩)))
  rw [List.drop_zero,List.take_of_length_le (by simp)]
end Go.Am
namespace Go.Am.Ts21
open Go.Proofs Go.Am.B
def t86_44:BC:=z [f 44 1 7,l 45 1 44,m 46 1,f 47 10 11,l 48 1 47,g 49 85 [.t 45,.t 46,.t 48],f 50 1 7,s 1 50 49] [7,8,11] (.seq (z [f 51 11 11,l 52 1 51,p 53 (.bin .neq) [.t 52,.c (.int .u32 0)],m 54 53,⟨some 55,some (54,true),.pure (.fld 8),[.t 7]⟩,⟨some 56,some (54,true),.load (.ld 1 false),[.t 55]⟩,⟨some 57,some (54,true),.pure (.fld 11),[.t 11]⟩,⟨some 58,some (54,true),.load (.ld 1 false),[.t 57]⟩,⟨some 59,some (54,true),.loud (.call 40),[.t 56,.t 58]⟩,⟨some 60,some (54,true),.pure (.len),[.t 59]⟩,⟨some 61,some (54,true),.pure (.bin .leq),[.t 60,.c (.int .i64 32)]⟩,⟨some 62,none,.pick,[.t 54,.t 61,.c (.bool false)]⟩] [7,8,11,62] (.cond (.t 62) (.ops [f 63 8 7,l 64 1 63,f 65 11 11,l 66 1 65,g 67 40 [.t 64,.t 66],f 68 8 7,s 1 68 67] [7,8]) .skip)) (z [⟨some 69,none,.load (.ld 9 true),[.t 7]⟩,s 9 8 69,k 9 (.bool true)] [8,9] .ret))
def t86_38:BC := .seq (z [f 38 8 11,l 39 1 38] [1,7,8,11,39] (.cond (.t 39) (z [f 40 3 7,⟨none,none,.loud (.st 1),[.t 40,.c (.bool true)]⟩] [1,7,8,11] (.ops [f 41 9 11,l 42 1 41,f 43 4 7,s 1 43 42] [1,7,8,11])) .skip)) t86_44
def b86:BC:=z [⟨some 6,none,.alloc (.box),[.t 2]⟩,⟨some 7,none,.alloc (.box),[.t 3]⟩,⟨some 8,none,.alloc (.alloc [(.int .i64 0),.nils,(.int .u32 0),(.bool false),(.int .u32 0),(.bool false),(.int .u32 0),(.bool false),.nils]),[]⟩,k 9 (.bool false)] [0,1,6,7,8] (z [⟨some 12,none,.load (.ld 9 true),[.t 7]⟩,g 13 83 [.t 12],s 9 7 13] [0,1,6,7,8] (.seq (z [j 10 0] [0,1,6,7,8,10] (.block 0 (.loop [0,1,6,7,8,10] (.seq (z [m 14 10,m 15 0,u 16 .len 15,b 17 .lss 14 16] [0,1,6,7,8,10,17] (.cond (.t 17) .skip (.exit 0))) (.seq (.block 1 (z [m 20 0,m 21 10,x 22 12 20 21,⟨some 23,none,.load (.ld 12 true),[.t 22]⟩,⟨some 11,none,.alloc (.alloc [(.int .u32 0),(.int .i64 0),(.int .i64 0),(.int .i64 0),(.int .u32 0),(.bool false),(.bool false),(.int .u32 0),(.bool false),(.int .u32 0),(.int .i64 0),(.int .u32 0)]),[]⟩,s 12 11 23] [0,1,6,7,8,10,11] (.seq (z [⟨some 24,none,.load (.ld 12 true),[.t 11]⟩,⟨some 25,none,.load (.ld 2 true),[.t 6]⟩,⟨some 26,none,.load (.ld 9 true),[.t 7]⟩,g 27 147 [.t 24,.t 25,.t 26],u 28 .not 27] [0,1,6,7,8,10,11,28] (.cond (.t 28) (.exit 1) .skip)) (.seq (z [f 29 5 11,l 30 1 29] [1,7,8,11,30] (.cond (.t 30) (z [p 31 (.build [(.int .i64 0),.nils,(.int .u32 0),(.bool false),(.int .u32 0),(.bool false),(.int .u32 0),(.bool false),.nils] []) [],s 9 8 31,k 9 (.bool false)] [8,9] .ret) .skip)) (.seq (z [f 32 6 11,l 33 1 32] [1,7,8,11,33] (.cond (.t 33) (z [f 34 5 7,⟨none,none,.loud (.st 1),[.t 34,.c (.bool true)]⟩] [1,7,8,11] (.ops [f 35 7 11,l 36 1 35,f 37 6 7,s 1 37 36] [1,7,8,11])) .skip)) t86_38))))) (.ops [m 18 10,c 19 .add 18 1,m 10 19] [0,1,6,7,8,10])))))) (z [⟨some 70,none,.load (.ld 9 true),[.t 7]⟩,s 9 8 70,k 9 (.bool true)] [8,9] .ret)))
def F86:Fn Tryz.prog 86:=Fn.mkX false b86 [.c 8 9 true,.t 9] 71 Tryz.f86 _ Tryz.func86 (by decide) rfl Tryz.ntmps86 (by kernel_rfl) (by kernel_rfl)
end Go.Am.Ts21
