/- A part of the proof: a logic for calls over plain values, and the functions that the law reaches, each walked once. -/
import Derived.Test.YtplkahhkogncjaaGreatQC8
import Derived.Lib.MakeNoZero
import Derived.LoopN
set_option linter.unusedVariables false
set_option linter.unusedSimpArgs false
set_option linter.unusedSectionVars false
namespace Go.Am.Rp
open Go.RowKit Go.Shelf Go.Proofs Go.Lib
set_option linter.unusedVariables false
set_option maxHeartbeats 4000000 in
set_option maxRecDepth 100000 in
theorem zah (n c:Nat) (a:Addr) (w:World) (hn:n≤c):Calls Tryz.prog 105 #[.slice (some a) n c] w fun r w2=>r = .returned (.slice (some a) n n)∧w2=w:=by
 go_enter Tryz.func105,Tryz.ntmps105
 go_wp2
 go_ret
 exact ⟨rfl,rfl⟩
theorem zfo (w:World):Calls Tryz.prog 105 #[.slice none 0 0] w fun r w2=>r = .returned (.slice none 0 0)∧w2=w:=by
 go_enter Tryz.func105,Tryz.ntmps105
 go_wp2
 go_ret
 exact ⟨rfl,rfl⟩
set_option maxHeartbeats 4000000 in
set_option maxRecDepth 100000 in
theorem zg4 (w:World):Calls Tryz.prog 214 #[.int .u64 1,.int .u64 16] w fun e w'=>e = .returned (.tuple #[.int .u64 0,.int .u64 16])∧w'=w:=by
 go_enter Tryz.func214,Tryz.ntmps214
 go_wp2
 go_ret2
 exact ⟨rfl,rfl⟩
theorem mul (w:World):Calls Tryz.prog 187 #[.int .u64 1,.int .u64 16] w fun e w'=>e = .returned (.tuple #[.int .u64 0,.int .u64 16])∧w'=w:=by
 have e214:∀ args w,(callFunc 214 args).run Tryz.prog w = .ok (.enter 214 args) w:=enters_of Tryz.func214 (by kernel_rfl) rfl
 go_enter Tryz.func187,Tryz.ntmps187
 go_wp2_with (go_at_fn 214;refine (zg4 _).mono ?_;rintro e w' ⟨rfl,hw⟩;rw [hw])
 go_ret2
 exact ⟨rfl,rfl⟩
def ff:Value := .int .u8 255
def Full (cur:Array Value) (m:Nat):Prop:=16≤cur.size∧∀ k,k<m→cur.getD k undef=ff
theorem Full.step {cur:Array Value} {m n:Nat} (h:Full cur m) (hn:m+n≤16):Full (lay cur m (List.replicate n ff)) (m+n):=by
 have hl:m+(List.replicate n ff).length≤cur.size:=by have:=h.1;simp;omega
 refine ⟨by rw [zdj hl];exact h.1,fun k hk => ?_⟩
 rw [z9i hl]
 simp only [List.length_replicate]
 by_cases h1:k<m
 ·rw [if_neg (by omega)];exact h.2 k h1
 ·rw [if_pos (by omega)]
  rw [List.getD_eq_getElem?_getD,List.getElem?_replicate,if_pos (by omega)];rfl
theorem zfz:(Tryz.prog.info? 5).map (fun i=>(i.zero,i.size,i.bytes))=some (some (.int .u8 0),1,1):=by kernel_rfl
theorem sz5:tsz Tryz.prog 5=some 1:=by
 obtain ⟨i0,hi0,h0,h1,h2⟩:=info_parts zfz
 unfold tsz;rw [hi0];simp [h1]
theorem cp (W:World) (g m n dc:Nat) (a:Addr) (sLen sCap:Nat) (cur:Array Value) (hg:W.heap[g]? = some (.cells cur 5 (0,0))) (hc:∀ j,j<n→W.cell? (a.add j)=some ff) (hf:m+n≤cur.size) (dl:Nat) (hn:n=Nat.min sLen dl) :
 (Builtin.copy_ #[53,53] 3 #[.slice (some ⟨g,m,none⟩) dl dc,.slice (some a) sLen sCap]).run Tryz.prog W = .ok (goInt n) (W.setRow g (lay cur m (List.replicate n ff))) :=
 z30 W g m dl dc a sLen sCap n cur 5 (List.replicate n ff) Tryz.underlying53 sz5 hg hn (by simp) (fun j v hj=>by
  rw [List.getElem?_replicate] at hj
  split at hj
  ·cases hj;exact hc j (by assumption)
  ·cases hj) (by simpa using hf) (fun v hv=>by rw [List.eq_of_mem_replicate hv];rfl)
structure At0 (w W:World) (r:Array Value):Prop where
 heap:W.heap=w.heap.push (.cells r 5 (0,0))
 tape:W.tape=w.tape
 os:W.os=w.os
 output:W.output=w.output
 drawn:w.drawn≤W.drawn
theorem At0.get {w W:World} {r:Array Value} (h:At0 w W r):W.heap[w.heap.size]? = some (.cells r 5 (0,0)):=by rw [h.heap];simp
theorem At0.drew {w W:World} {r:Array Value} (h:At0 w W r):At0 w W.drew r:=⟨h.heap,h.tape,h.os,h.output,Nat.le_succ_of_le h.drawn⟩
theorem At0.row {w W:World} {r:Array Value} (r':Array Value) (h:At0 w W r):At0 w (W.setRow w.heap.size r') r':=⟨by
 refine Array.ext_getElem? fun k => ?_
 by_cases hk:k=w.heap.size
 ·subst hk;rw [y8 h.get];simp
 ·rw [xz _ hk,h.heap,Array.getElem?_push,Array.getElem?_push,if_neg hk,if_neg hk],h.tape,h.os,h.output,h.drawn⟩
set_option maxHeartbeats 4000000 in
set_option maxRecDepth 100000 in
theorem rep (b o c:Nat) (w:World) (hc:w.cell? ⟨b,o,none⟩=some (.int .u8 255)) (hb:b<w.heap.size):Calls Tryz.prog 158 #[.slice (some ⟨b,o,none⟩) 1 c,.int .i64 16] w fun r w2=>∃ row,Full row 16∧r = .returned (.slice (some ⟨w.heap.size,0,none⟩) 16 16)∧w2.tape=w.tape∧w2.os=w.os∧w2.output=w.output∧w.drawn≤w2.drawn∧w2.heap=w.heap.push (.cells row 5 (0,0)):=by
 have e187:∀ args w,(callFunc 187 args).run Tryz.prog w = .ok (.enter 187 args) w:=enters_of Tryz.func187 (by kernel_rfl) rfl
 obtain ⟨cs,hcs,hsz,_⟩:=run_makeNoZero (P:=Tryz.prog) w #[3] 53 5 Tryz.underlying53 16 (by omega)
 have hmk:(callFunc 188 #[.int .i64 16]).run Tryz.prog w = .ok (.value (.slice (some ⟨w.heap.size,0,none⟩) 16 cs.size)) (w.drew.drew.alloc (.cells cs 5)):=by
  rw [run_callFunc_extern Tryz.func188 (by kernel_rfl) (by kernel_rfl) (by kernel_rfl) (e:=Extern.BytealgMakeNoZero.makeNoZero #[3] #[53]) (by kernel_rfl)]
  rw [show ((16:Nat):Int)=16 from rfl] at hcs
  simp [hcs]
 have hg0:(w.drew.drew.alloc (.cells cs 5)).heap[w.heap.size]? = some (.cells cs 5 (0,0)):=xh (w:=w.drew.drew) _
 obtain ⟨r0,hr0⟩:∃ r0,r0=lay cs 0 (List.replicate 1 ff):=⟨_,rfl⟩
 obtain ⟨r1,hr1⟩:∃ r1,r1=lay r0 1 (List.replicate 1 ff):=⟨_,rfl⟩
 obtain ⟨r2,hr2⟩:∃ r2,r2=lay r1 2 (List.replicate 2 ff):=⟨_,rfl⟩
 obtain ⟨r3,hr3⟩:∃ r3,r3=lay r2 4 (List.replicate 4 ff):=⟨_,rfl⟩
 obtain ⟨r4,hr4⟩:∃ r4,r4=lay r3 8 (List.replicate 8 ff):=⟨_,rfl⟩
 have F0:Full r0 1:=by rw [hr0];exact Full.step (m:=0) (n:=1) ⟨hsz,fun k hk=>by omega⟩ (by omega)
 have F1:Full r1 2:=by rw [hr1];exact F0.step (by omega)
 have F2:Full r2 4:=by rw [hr2];exact F1.step (by omega)
 have F3:Full r3 8:=by rw [hr3];exact F2.step (by omega)
 have F4:Full r4 16:=by rw [hr4];exact F3.step (by omega)
 have c0:∀ W:World,W.heap=(w.alloc (.cells cs 5)).heap→(Builtin.copy_ #[53,53] 3 #[.slice (some ⟨w.heap.size,0,none⟩) 16 16,.slice (some ⟨b,o,none⟩) 1 c]).run Tryz.prog W = .ok (goInt (1:Nat)) (W.setRow w.heap.size r0):=fun W hW=>by
  rw [hr0]
  refine cp W _ 0 1 16 ⟨b,o,none⟩ 1 c cs (by rw [hW];exact xh _) (fun j hj => ?_) (by omega) 16 rfl
  obtain rfl:j=0:=by omega
  rw [show W.cell? (Addr.add ⟨b,o,none⟩ 0)=(w.alloc (.cells cs 5)).cell? ⟨b,o,none⟩ by simp [World.cell?,hW,Addr.add]]
  rw [World.cell?_alloc_past _ _ _ hb];exact hc
 have cN:∀ (W:World) (m:Nat) (cur:Array Value) (dl sc dc:Nat),W.heap[w.heap.size]? = some (.cells cur 5 (0,0))→Full cur m→m+m≤16→m≤dl→(Builtin.copy_ #[53,53] 3 #[.slice (some ⟨w.heap.size,m,none⟩) dl dc,.slice (some ⟨w.heap.size,0,none⟩) m sc]).run Tryz.prog W = .ok (goInt m) (W.setRow w.heap.size (lay cur m (List.replicate m ff))):=fun W m cur dl sc dc hW hF h16 hdl=>by
  refine cp W _ m m dc ⟨w.heap.size,0,none⟩ m sc cur hW (fun j hj => ?_) (by have:=hF.1;omega) dl (by simp only [Nat.min_def];split <;> omega)
  have h1:=hF.2 j hj
  have hl:j<cur.size:=by have:=hF.1;omega
  have h2:cur[j]? = some ff:=by
   rw [Array.getElem?_eq_getElem hl]
   rw [Array.getD,dif_pos hl] at h1
   exact congrArg some h1
  rw [x6]
  simp [World.cell?,hW,h2]
 have d0:∀ W:World,W.heap[w.heap.size]? = some (.cells r0 5 (0,0))→(Builtin.copy_ #[53,53] 3 #[.slice (some ⟨w.heap.size,1,none⟩) 15 15,.slice (some ⟨w.heap.size,0,none⟩) 1 16]).run Tryz.prog W = .ok (goInt (1:Nat)) (W.setRow w.heap.size r1):=fun W hW=>by
  rw [hr1];exact cN W 1 r0 15 16 15 hW F0 (by omega) (by omega)
 have d1:∀ W:World,W.heap[w.heap.size]? = some (.cells r1 5 (0,0))→(Builtin.copy_ #[53,53] 3 #[.slice (some ⟨w.heap.size,2,none⟩) 14 14,.slice (some ⟨w.heap.size,0,none⟩) 2 16]).run Tryz.prog W = .ok (goInt (2:Nat)) (W.setRow w.heap.size r2):=fun W hW=>by
  rw [hr2];exact cN W 2 r1 14 16 14 hW F1 (by omega) (by omega)
 have d2:∀ W:World,W.heap[w.heap.size]? = some (.cells r2 5 (0,0))→(Builtin.copy_ #[53,53] 3 #[.slice (some ⟨w.heap.size,4,none⟩) 12 12,.slice (some ⟨w.heap.size,0,none⟩) 4 16]).run Tryz.prog W = .ok (goInt (4:Nat)) (W.setRow w.heap.size r3):=fun W hW=>by
  rw [hr3];exact cN W 4 r2 12 16 12 hW F2 (by omega) (by omega)
 have d3:∀ W:World,W.heap[w.heap.size]? = some (.cells r3 5 (0,0))→(Builtin.copy_ #[53,53] 3 #[.slice (some ⟨w.heap.size,8,none⟩) 8 8,.slice (some ⟨w.heap.size,0,none⟩) 8 16]).run Tryz.prog W = .ok (goInt (8:Nat)) (W.setRow w.heap.size r4):=fun W hW=>by
  rw [hr4];exact cN W 8 r3 8 16 8 hW F3 (by omega) (by omega)
 clear hr0 hr1 hr2 hr3 hr4 cN F0 F1 F2 F3
 have mixed:Tryz.prog.follows Departure.mixedOrders=true:=by kernel_rfl
 go_enter Tryz.func158,Tryz.ntmps158
 go_wp2_with (first | (go_at_fn 187;refine (mul _).mono ?_;rintro e w' ⟨rfl,hw⟩;rw [hw]) | simp only [hmk] | rw [c0 ((w.alloc (.cells cs 5)).drew.drew) rfl])
 have a0:At0 w ((w.alloc (.cells cs 5)).drew.drew.setRow w.heap.size r0) r0:=(At0.mk (W:=(w.alloc (.cells cs 5)).drew.drew) (r:=cs) rfl rfl rfl rfl (by show w.drawn≤w.drawn+1+1;omega)).row r0
 generalize ((w.alloc (.cells cs 5)).drew.drew.setRow w.heap.size r0)=W0 at a0 ⊢
 refine wp_loop_rounds 5 ?_
 rw [rounds_succ]
 go_wp2
 have cc:=d0 W0.drew a0.drew.get
 rw [show (min (1:Int) 16)=1 from rfl]
 go_region_law_o (refine step_copy_runI rfl _ _ 53 53 rfl (.slice (some ⟨w.heap.size,1,none⟩) 15 15) (.slice (some ⟨w.heap.size,0,none⟩) 1 16) (by simp [Act.eval,Act.put]) (by simp [Act.eval,Act.put]) cc ?_)
 have a1:=a0.drew.row r1
 generalize (W0.drew.setRow w.heap.size r1)=W1 at a1 ⊢
 clear cc d0 a0
 go_wp2
 rw [rounds_succ]
 go_wp2
 have cc:=d1 W1.drew a1.drew.get
 rw [show (min (2:Int) 16)=2 from rfl]
 go_region_law_o (refine step_copy_runI rfl _ _ 53 53 rfl (.slice (some ⟨w.heap.size,2,none⟩) 14 14) (.slice (some ⟨w.heap.size,0,none⟩) 2 16) (by simp [Act.eval,Act.put]) (by simp [Act.eval,Act.put]) cc ?_)
 have a2:=a1.drew.row r2
 generalize (W1.drew.setRow w.heap.size r2)=W2 at a2 ⊢
 clear cc d1 a1
 go_wp2
 rw [rounds_succ]
 go_wp2
 have cc:=d2 W2.drew a2.drew.get
 rw [show (min (4:Int) 16)=4 from rfl]
 go_region_law_o (refine step_copy_runI rfl _ _ 53 53 rfl (.slice (some ⟨w.heap.size,4,none⟩) 12 12) (.slice (some ⟨w.heap.size,0,none⟩) 4 16) (by simp [Act.eval,Act.put]) (by simp [Act.eval,Act.put]) cc ?_)
 have a3:=a2.drew.row r3
 generalize (W2.drew.setRow w.heap.size r3)=W3 at a3 ⊢
 clear cc d2 a2
 go_wp2
 rw [rounds_succ]
 go_wp2
 have cc:=d3 W3.drew a3.drew.get
 rw [show (min (8:Int) 16)=8 from rfl]
 go_region_law_o (refine step_copy_runI rfl _ _ 53 53 rfl (.slice (some ⟨w.heap.size,8,none⟩) 8 8) (.slice (some ⟨w.heap.size,0,none⟩) 8 16) (by simp [Act.eval,Act.put]) (by simp [Act.eval,Act.put]) cc ?_)
 have a4:=a3.drew.row r4
 generalize (W3.drew.setRow w.heap.size r4)=W4 at a4 ⊢
 clear cc d3 a3
 go_wp2
 rw [rounds_succ]
 go_wp2
 go_ret
 exact ⟨r4,F4,rfl,a4.tape,a4.os,a4.output,a4.drawn,a4.heap⟩
end Go.Am.Rp
namespace Go.Am
open Go.Proofs Go.Am.Rp Go.RowKit Go.Shelf Go.Lib
theorem z5p {v:AV} {σ:Store} (hv:v = .nils∨∃ id off len,v = .os id 1 off len):ACalls Tryz.prog 105 [v] σ (fun r s=>s=σ∧r=v):=by
 refine ⟨⟨_,Tryz.func105,by decide,rfl⟩,fun G w vs hs hvs => ?_⟩
 cases hvs with
 | cons hvS hvs =>
 cases hvs
 rename_i vS
 rcases hv with rfl | ⟨id,off,len,rfl⟩
 ·obtain rfl:=hvS.of_nils
  exact (zfo w).mono fun r w2 ⟨e1,e2⟩=>⟨_,.nils,G,σ,e1,by rw [e2];exact Ext.refl _ _ _,by rw [e2];exact hs,.nils,rfl,rfl⟩
 ·obtain ⟨b,base,hb,⟨c,rfl,hlen,ty',N,hsh,hcap⟩ | ⟨h0,x0,rfl⟩⟩:=hvS.of_os
  ·refine (zah _ _ _ w hlen).mono fun r w2 ⟨e1,e2⟩=>⟨_,.os id 1 off len,G,σ,e1,by rw [e2];exact Ext.refl _ _ _,by rw [e2];exact hs,?_,rfl,rfl⟩
   rw [e2]
   exact VRel.os hb (Nat.le_refl _) ⟨ty',N,hsh,by omega⟩
  ·subst h0
   refine (zah _ _ _ w (Nat.le_refl _)).mono fun r w2 ⟨e1,e2⟩=>⟨_,.os id 1 off 0,G,σ,e1,by rw [e2];exact Ext.refl _ _ _,by rw [e2];exact hs,?_,rfl,rfl⟩
   rw [e2]
   exact VRel.os0 hb
theorem z7i {h:Nat} {σ:Store} {Q:AV→Store→Prop} (hh:σ h=some (.arr 1 [[.int .u8 255]]))
 (hQ:∀ id,σ id=none→Q (.os id 1 0 16) (σ.set id (.arr 1 (List.replicate 16 [.int .u8 255])))):ACalls Tryz.prog 158 [.os h 1 0 1,.int .i64 16] σ Q:=by
 refine ⟨⟨_,Tryz.func158,by decide,rfl⟩,fun G w vs hs hvs => ?_⟩
 cases hvs with
 | cons hvV hvs =>
 cases hvs with
 | cons hv0 hvs =>
 cases hvs
 obtain rfl:=hv0.of_int
 obtain ⟨vb,vbase,hvρ,⟨vc,rfl,vlen,vty,vN,vsh,vcap⟩ | ⟨h0,_⟩⟩:=hvV.of_os
 ·obtain ⟨b',base',hb',hov⟩:=hs.used h _ hh
  rw [hvρ] at hb';cases hb'
  cases hov with
  | arr vh vs' vl vf vr =>
  rename_i vcur vtyc
  simp only [Nat.zero_mul,Nat.add_zero,List.length_singleton,Nat.one_mul] at *
  have hr:=(vr 0 0 (by simp) (by simp)).of_int
  simp only [Nat.zero_mul,Nat.add_zero] at hr
  have hcell:w.cell? ⟨vb,vbase,none⟩=some (.int .u8 255):=by
   have hl:vbase<vcur.size:=by omega
   rw [Array.getD,dif_pos hl] at hr
   simp [World.cell?,vh,Array.getElem?_eq_getElem hl]
   exact hr
  obtain ⟨id,hidρ,hidσ⟩:=hs.fresh
  refine (rep vb vbase vc w hcell (Array.getElem?_eq_some_iff.1 vh).1).mono ?_
  rintro r w2 ⟨row,hF,rfl,t1,t2,t3,t4,hH⟩
  have hget:w2.heap[w.heap.size]? = some (.cells row 5 (0,0)):=by rw [hH];simp
  obtain ⟨G',g1,g2,g3⟩:=hs.adopt (w':=w2) (o := .arr 1 (List.replicate 16 [.int .u8 255])) hidρ hidσ (g:=w.heap.size) (Nat.le_refl _) (by rw [hH];simp) (by rw [hH];simp) t1 t2 t3
   (fun b hb=>by rw [hH,Array.getElem?_push,if_neg (Nat.ne_of_lt hb)])
   (fun G' _ _ hvr=>by
     refine .arr hget (by have:=hF.1;simp;omega) (fun e he=>by rw [List.eq_of_mem_replicate he];rfl) (fun e he c hc=>by rw [List.eq_of_mem_replicate he] at hc;rw [List.mem_singleton.1 hc];rfl) fun i j hi hj => ?_
     have hi':i<16:=by simpa using hi
     have e1:(List.replicate 16 [AV.int .u8 255])[i]'hi=[.int .u8 255]:=List.getElem_replicate ..
     have hj':j=0:=by rw [e1] at hj;simpa using hj
     subst hj'
     simp only [e1,List.getElem_cons_zero]
     have:=hF.2 i hi'
     simp only [Nat.mul_one,Nat.add_zero,Nat.zero_add]
     rw [this]
     exact .int _ _)
  refine ⟨_,.os id 1 0 16,G',_,rfl,g1,g2,?_,hQ id hidσ⟩
  have hs2:w2.shape? w.heap.size=some (5,row.size):=by simp only [World.shape?,hget]
  have:=VRel.os (G:=G') (w:=w2) (esz:=1) (off:=0) (len:=16) (c:=16) g3 (Nat.le_refl _) ⟨_,_,hs2,by have:=hF.1;simp;omega⟩
  simpa using this
 ·cases h0
end Go.Am
