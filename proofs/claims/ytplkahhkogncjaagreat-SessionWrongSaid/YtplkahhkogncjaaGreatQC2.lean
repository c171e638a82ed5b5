/- A part of the proof: a logic for calls over plain values, and the functions that the law reaches, each walked once. -/
import Derived.Test.YtplkahhkogncjaaGreatQC1
import Derived.IntWalk
set_option linter.unusedVariables false
set_option linter.unusedSimpArgs false
set_option linter.unusedSectionVars false
namespace Go.Am
section
variable {P:Program} {w:World} {G:Gh} {σ:Store} {ev:Operand→Value} {oev:Opd→Option AV}
theorem y8 {g:Nat} {cs cur:Array Value} {ty:TypeId} {fr:Nat×Nat} (hg:w.heap[g]? = some (.cells cur ty fr)):(w.setRow g cs).heap[g]? = some (.cells cs ty fr):=by
 exact setRow_heap w g cur cs ty fr hg
theorem xz {g b:Nat} (cs:Array Value) (h:b≠g):(w.setRow g cs).heap[b]? = w.heap[b]? := by
 unfold World.setRow
 simp [Array.getElem?_modify,Ne.symm h]
theorem xp (g:Nat) (cs:Array Value):(w.setRow g cs).heap.size=w.heap.size:=by
 unfold World.setRow;simp
theorem Sim.put (hs:Sim G σ w) {id:Nat} {o o':Obj} {b base:Nat} (hσ:σ id=some o) (hρ:G.ρ id=some (b,base)) {w':World}
 (htape:w'.tape=w.tape) (hos:w'.os=w.os) (hout:w'.output=w.output) (hdr:w.drawn≤w'.drawn)
 (hsize:w'.heap.size=w.heap.size) (hother:∀ c,c≠b→w'.heap[c]? = w.heap[c]?) (hshape:w'.shape? b=w.shape? b)
 (hnew:(∀ a v,VRel G w a v→VRel G w' a v)→ORel G w' b base o') :
 Ext G σ w G (σ.set id o') w'∧Sim G (σ.set id o') w':=by
 have hsh:∀ c,w'.shape? c=w.shape? c:=fun c=>by
  by_cases hc:c=b
  ·rw [hc];exact hshape
  ·simp only [World.shape?,hother c hc]
 have hown:own G σ b:=⟨id,o,base,hσ,hρ⟩
 have hext:Ext G σ w G (σ.set id o') w' :=
  { tape:=htape,os:=hos,output:=hout,size:=by omega
    keep:=fun c _ hn=>hother c (fun e=>hn (e ▸ hown))
    shape:=fun c _=>hsh c
    ρ:=fun _ _ h=>h,I:=fun _ h=>h,newI:=fun _ h => .inl h
    newOwn:=fun c ⟨i,oi,bi,h1,h2⟩=>by
     by_cases hi:i=id
     ·subst hi;exact .inl ⟨i,o,bi,hσ,h2⟩
     ·rw [Store.set_ne _ _ hi] at h1;exact .inl ⟨i,oi,bi,h1,h2⟩
    newId:=fun i oi h1=>by
     by_cases hi:i=id
     ·subst hi;exact .inl ⟨o,hσ⟩
     ·rw [Store.set_ne _ _ hi] at h1;exact .inl ⟨oi,h1⟩ }
 have hv:∀ a v,VRel G w a v→VRel G w' a v:=fun a v h=>hext.vrel hs h
 refine ⟨hext,?_⟩
 exact
  { lt:=fun c hc=>by rw [hsize];exact hs.lt c hc
    fin:=hs.fin
    blk:=fun i c bi h=>by rw [hsize];exact hs.blk i c bi h
    used:=fun i oi h1=>by
     by_cases hi:i=id
     ·subst hi;simp at h1;subst h1;exact ⟨b,base,hρ,hnew hv⟩
     ·rw [Store.set_ne _ _ hi] at h1
      obtain ⟨c,bi,h2,h3⟩:=hs.used i oi h1
      refine ⟨c,bi,h2,h3.grow (hother c ?_) hv⟩
      intro e;subst e
      exact hi (hs.inj i id oi o _ _ _ h1 hσ h2 hρ)
    inj:=fun i j oi oj c bi bj h1 h2 h3 h4=>by
     have f:∀ i oi,(σ.set id o') i=some oi→∃ o,σ i=some o:=fun i oi h=>by
      by_cases hi:i=id
      ·subst hi;exact ⟨o,hσ⟩
      ·rw [Store.set_ne _ _ hi] at h;exact ⟨oi,h⟩
     obtain ⟨o1,h5⟩:=f i oi h1
     obtain ⟨o2,h6⟩:=f j oj h2
     exact hs.inj i j o1 o2 c bi bj h5 h6 h3 h4
    apart:=fun i oi c bi h1 h2=>by
     by_cases hi:i=id
     ·subst hi;exact hs.apart i o c bi hσ h2
     ·rw [Store.set_ne _ _ hi] at h1;exact hs.apart i oi c bi h1 h2 }
theorem xy {cur:Array Value} {vs:List Value} {o:Nat} (h:o+vs.length≤cur.size) (k:Nat) :
 (cur.toList.take o++vs++cur.toList.drop (o+vs.length)).toArray.getD k undef=if o≤k∧k<o+vs.length then vs.getD (k - o) undef else cur.getD k undef:=by
 have hlt:(cur.toList.take o).length=o:=by simp;omega
 rw [Array.getD_eq_getD_getElem?,List.getElem?_toArray,List.append_assoc]
 by_cases h1:k<o
 ·rw [List.getElem?_append_left (by omega),if_neg (by omega),List.getElem?_take_of_lt h1]
  simp
 ·rw [List.getElem?_append_right (by omega),hlt]
  by_cases h2:k<o+vs.length
  ·rw [List.getElem?_append_left (by omega),if_pos (by omega)];simp
  ·rw [List.getElem?_append_right (by omega),if_neg (by omega),List.getElem?_drop]
   rw [show o+vs.length+(k - o - vs.length)=k by omega];simp
theorem yf {cur:Array Value} {vs:List Value} {o:Nat} (h:o+vs.length≤cur.size) :
 (cur.toList.take o++vs++cur.toList.drop (o+vs.length)).toArray.size=cur.size:=by
 simp;omega
theorem z3s {as:List AV} {vs:List Value} (h:Rels (VRel G w) as vs) (hf:∀ a ∈ as,a.flat=true):∀ v ∈ vs,v.oneCell'=true:=by
 induction h with
 | nil=>intro v hv;cases hv
 | cons h1 _ ih =>
   intro v hv
   rcases List.mem_cons.1 hv with rfl | hv
   ·exact h1.oneCell (hf _ (by simp))
   ·exact ih (fun a ha=>hf a (by simp [ha])) v hv
theorem z5n {a:AV} {v:Value} (h:VRel G w a v) (ht:a.isTup=false):Rels (VRel G w) a.cells v.cells.toList∧∀ c ∈ a.cells,c.flat=true:=by
 obtain ⟨h1,h2,h3⟩:=h.cells_rel (fun vs e=>by subst e;cases ht)
 refine ⟨Rels.of_get (by simpa using h1) fun k hk hk' => ?_,h2⟩
 obtain ⟨x,hx,hr⟩:=h3 k _ (List.getElem?_eq_getElem hk)
 have e:v.cells.toList[k]? = some x:=by simpa using hx
 rw [List.getElem?_eq_getElem hk'] at e
 cases e;exact hr
theorem zfh (hs:Sim G σ w) {p:AV} {v:Value} {new:List AV} {vs:List Value} {σ':Store} (hp:VRel G w p v) (hnew:Rels (VRel G w) new vs) (hfl:∀ c ∈ new,c.flat=true)
 (h:wr σ new p=some σ'):∃ b o,v = .pointer (some ⟨b,o,none⟩)∧∃ w',(storeCells ⟨b,o,none⟩ vs 0).run P w = .ok () w'∧Ext G σ w G σ' w'∧Sim G σ' w':=by
 unfold wr at h
 split at h
 ·rename_i id off
  split at h
  ·rename_i cells hσ
   obtain ⟨cs,hsp,rfl⟩:=Option.map_eq_some_iff.1 h
   obtain ⟨b,base,hb,hv⟩:=hp.of_ptr
   obtain ⟨b',base',hb',ho⟩:=hs.used id _ hσ
   rw [hb] at hb';cases hb'
   obtain ⟨e1,e2,e3⟩:=wg _ _ _ _ hsp
   cases ho with
   | box hh hsz hf hr =>
     rename_i cur ty
     have hlen:=hnew.length
     have hle:base+off+0+vs.length≤cur.size:=by omega
     have hrun:=run_storeCells_at (P:=P) b (base+off) ty vs 0 cur w hh hle (z3s hnew hfl)
     simp only [Nat.add_zero] at hrun hle
     refine ⟨b,base+off,hv,_,hrun,?_⟩
     refine hs.put hσ hb rfl rfl rfl (Nat.le_refl _) (xp _ _) (fun c hc=>xz _ hc) ?_ (fun hvr => ?_)
     ·simp only [World.shape?,y8 hh,hh,yf hle]
     ·refine .box (y8 hh) (by rw [yf hle,e1];exact hsz) (fun c hc => ?_) (fun k hk => ?_)
      ·obtain ⟨k,hk⟩:=List.getElem?_of_mem hc
       rw [e3 k] at hk
       split at hk
       ·exact hfl c (List.mem_of_getElem? hk)
       ·exact hf c (List.mem_of_getElem? hk)
      ·have hk':=List.getElem?_eq_getElem hk
       rw [e3 k] at hk'
       rw [xy hle]
       split at hk'
       ·rename_i hc
        rw [if_pos (by omega)]
        obtain ⟨x,hx,hxr⟩:=hnew.get _ _ hk'
        have:vs.getD (base+k - (base+off)) undef=x:=by
         rw [show base+k - (base+off)=k - off by omega];simp [List.getD,hx]
        rw [this];exact hvr _ _ hxr
       ·rename_i hc
        rw [if_neg (by omega)]
        obtain ⟨hk2,he⟩:=List.getElem?_eq_some_iff.1 hk'
        rw [←he];exact hvr _ _ (hr k hk2)
  ·cases h
 ·rename_i id esz i off
  split at h
  ·rename_i esz' es hσ
   split at h
   ·rename_i he
    subst he
    obtain ⟨c0,hc0,h⟩:=z9 h
    obtain ⟨cs,hsp,rfl⟩:=Option.map_eq_some_iff.1 h
    obtain ⟨b,base,hb,hv⟩:=hp.of_aptr
    obtain ⟨b',base',hb',ho⟩:=hs.used id _ hσ
    rw [hb] at hb';cases hb'
    obtain ⟨e1,e2,e3⟩:=wg _ _ _ _ hsp
    obtain ⟨hi,rfl⟩:=List.getElem?_eq_some_iff.1 hc0
    cases ho with
    | arr hh hsz hln hf hr =>
      rename_i cur ty
      have hlen:=hnew.length
      have hli:es[i].length=esz':=hln _ (List.getElem_mem hi)
      have hmul:i*esz'+esz'≤es.length*esz':=by
       have:=Nat.mul_le_mul_right esz' (Nat.succ_le_of_lt hi)
       rwa [Nat.succ_mul] at this
      have hle:base+(i*esz'+off)+0+vs.length≤cur.size:=by omega
      have hrun:=run_storeCells_at (P:=P) b (base+(i*esz'+off)) ty vs 0 cur w hh hle (z3s hnew hfl)
      simp only [Nat.add_zero] at hrun hle
      refine ⟨b,_,hv,_,hrun,?_⟩
      refine hs.put hσ hb rfl rfl rfl (Nat.le_refl _) (xp _ _) (fun c hc=>xz _ hc) ?_ (fun hvr => ?_)
      ·simp only [World.shape?,y8 hh,hh,yf hle]
      ·have hmem:∀ e ∈ es.set i cs,e=cs∨e ∈ es:=fun e he=>by
        rcases List.mem_or_eq_of_mem_set he with h | h
        ·exact .inr h
        ·exact .inl h
       refine .arr (y8 hh) (by rw [yf hle,List.length_set];exact hsz) (fun e he => ?_) (fun e he c hc => ?_) (fun i' j hi' hj => ?_)
       ·rcases hmem e he with rfl | h
        ·rw [e1,hli]
        ·exact hln e h
       ·rcases hmem e he with rfl | h
        ·obtain ⟨k,hk⟩:=List.getElem?_of_mem hc
         rw [e3 k] at hk
         split at hk
         ·exact hfl c (List.mem_of_getElem? hk)
         ·exact hf _ (List.getElem_mem hi) c (List.mem_of_getElem? hk)
        ·exact hf e h c hc
       ·rw [List.length_set] at hi'
        rw [xy hle]
        by_cases hii:i'=i
        ·subst hii
         have e4:(es.set i' cs)[i']'(by simpa using hi')=cs:=by simp
         simp only [e4] at hj ⊢
         have hk':=List.getElem?_eq_getElem hj
         rw [e3 j] at hk'
         split at hk'
         ·rename_i hc
          rw [if_pos (by omega)]
          obtain ⟨x,hx,hxr⟩:=hnew.get _ _ hk'
          have:vs.getD (base+(i'*esz'+j) - (base+(i'*esz'+off))) undef=x:=by
           rw [show base+(i'*esz'+j) - (base+(i'*esz'+off))=j - off by omega];simp [List.getD,hx]
          rw [this];exact hvr _ _ hxr
         ·rename_i hc
          rw [if_neg (by omega)]
          obtain ⟨hk2,he⟩:=List.getElem?_eq_some_iff.1 hk'
          rw [←he];exact hvr _ _ (hr i' j hi hk2)
        ·have e4:(es.set i cs)[i']'(by simpa using hi')=es[i']:=by rw [List.getElem_set_ne (Ne.symm hii)]
         simp only [e4] at hj ⊢
         have hj':j<esz':=by rw [hln _ (List.getElem_mem hi')] at hj;exact hj
         rw [if_neg]
         ·exact hvr _ _ (hr i' j hi' hj)
         ·rintro ⟨h1,h2⟩
          rcases Nat.lt_or_ge i' i with h3 | h3
          ·have:=Nat.mul_le_mul_right esz' (Nat.succ_le_of_lt h3)
           rw [Nat.succ_mul] at this;omega
          ·have:=Nat.mul_le_mul_right esz' (show i+1≤i' by omega)
           rw [Nat.succ_mul] at this;omega
   ·cases h
  ·cases h
 ·cases h
end
end Go.Am
namespace Go.Am
inductive AK where
 | alloc (zeros:List AV)
 | box
 | mksl (esz n:Nat)
 | mkmap
 | make (esz:Nat) (zero:List AV) (bytes:Nat)
def alv:AK→List AV→Option (Obj×(Nat→AV))
 | .alloc z,[]=>some (.box z,fun id => .ptr id 0)
 | .box,[a]=>if a.isTup then none else some (.box a.cells,fun id => .ptr id 0)
 | .mksl esz n,as=>if as.length=n∧as.all (fun a => !a.isTup && decide (a.cells.length=esz)) then some (.arr esz (as.map AV.cells),fun id => .os id esz 0 n) else none
 | .mkmap,[]=>some (.map [],fun id => .mp id)
 | .make esz z bytes,[.int .i64 n,.int .i64 m] =>
   if n=m∧0≤n∧n≤9223372036854775807∧n*bytes≤281474976710656 then some (.arr esz (List.replicate n.toNat z),fun id => .os id esz 0 n.toNat) else none
 | _,_=>none
def compAlloc (P:Program):Op→Option (AK×List Opd)
 | .alloc t=>do pure (.alloc (←tzero P t),[])
 | .box _ x=>do pure (.box,[←compOpd x])
 | .buildSlice t n parts=>do
   let .slice e ←P.underlying t | none
   let s ←tsz P e
   if parts.toList.map (·.1)=List.range n∧n*s≤16777216∧(n*s=0∨(tzero P e).isSome) then
    pure (.mksl s n,←parts.toList.mapM fun x=>compOpd x.2) else none
 | .makeMap _ none=>pure (.mkmap,[])
 | .makeSlice t l c=>do
   let .slice e ←P.underlying t | none
   let s ←tsz P e
   let z ←tzero P e
   let i ←P.info? e
   if z.length=s then pure (.make s z i.bytes,[←compOpd l,←compOpd c]) else none
 | _=>none
def GivesW (P:Program) (ev:Operand→Value) (op:Op) (w:World) (v:Value) (w':World):Prop :=
 ∀ dst ty pos after guard,(execOp ev ⟨dst,op,ty,pos,after,guard⟩).run P w = .ok (.value v) w'
section
variable {P:Program} {w:World} {G:Gh} {σ:Store} {ev:Operand→Value} {oev:Opd→Option AV}
theorem qw {op:Op} {s:Sem Value} {v:Value} {w':World} (h:∀ dst ty pos after guard,execOp ev ⟨dst,op,ty,pos,after,guard⟩=(do pure (.value (←s)))) (hs:s.run P w = .ok v w'):GivesW P ev op w v w':=by
 intro dst ty pos after guard
 rw [h];simp [hs]
theorem xh (ob:Go.Obj):(w.alloc ob).heap[w.heap.size]? = some ob:=by
 show (w.heap.push ob)[w.heap.size]? = some ob
 simp
theorem z1e (t:TypeId) (v:Value):(newVar t v).run P w = .ok ⟨w.heap.size,0,none⟩ (w.alloc (.cells v.cells t (0,0))):=by
 simp [newVar,newRow]
theorem z56 (hs:Sim G σ w) {id:Nat} (hρ:G.ρ id=none) (hσ:σ id=none) {cells:List AV} {cs:Array Value} (t:TypeId) (hc:CRel G w cells cs) :
 ∃ G',Ext G σ w G' (σ.set id (.box cells)) (w.alloc (.cells cs t (0,0)))∧Sim G' (σ.set id (.box cells)) (w.alloc (.cells cs t (0,0)))∧G'.ρ id=some (w.heap.size,0):=by
 refine hs.alloc hρ hσ _ fun G' hr hI hid => ?_
 obtain ⟨h1,h2,h3⟩:=hc
 refine .box (xh _) (by omega) h2 fun k hk => ?_
 obtain ⟨x,hx,hxr⟩:=h3 k _ (List.getElem?_eq_getElem hk)
 have:cs.getD (0+k) undef=x:=by rw [Nat.zero_add,Array.getD_eq_getD_getElem?,hx];rfl
 rw [this]
 refine hxr.grow hI hr (fun b hb => ?_) (fun b y hb => ?_)
 ·have hlt:=hs.lt b hb
  show (w.heap.push _)[b]? = w.heap[b]?
  rw [Array.getElem?_push,if_neg (by omega)]
 ·have hlt:=z06 hb
  have:(w.alloc (.cells cs t (0,0))).heap[b]? = w.heap[b]? := by
   show (w.heap.push _)[b]? = w.heap[b]?
   rw [Array.getElem?_push,if_neg (by omega)]
  simp only [World.shape?,this] at hb ⊢;exact hb
theorem z5x (hs:Sim G σ w) (ob:Go.Obj) {G':Gh} (hr:∀ i x,G.ρ i=some x→G'.ρ i=some x) (hI:∀ b,G.I b→G'.I b) {a:AV} {v:Value} (h:VRel G w a v):VRel G' (w.alloc ob) a v:=by
 have hb:∀ b,b<w.heap.size→(w.alloc ob).heap[b]? = w.heap[b]? := fun b hb=>by
  show (w.heap.push _)[b]? = w.heap[b]?
  rw [Array.getElem?_push,if_neg (by omega)]
 refine h.grow hI hr (fun b h=>hb b (hs.lt b h)) (fun b y h => ?_)
 have:=hb b (z06 h)
 simp only [World.shape?,this] at h ⊢;exact h
theorem z3i (size:Nat):∀ (vs:List Value) (i0:Nat) (cs:Array Value),(∀ v ∈ vs,v.cells.size=size)→(i0+vs.length)*size≤cs.size →
 ∃ cs',Instr.fill (fun i=>some (i*size,size)) cs ((vs.zipIdx i0).map fun p=>(p.2,p.1))=some cs'∧cs'.size=cs.size∧(∀ k,k<i0*size→cs'[k]? = cs[k]?) ∧
   ∀ i j v,vs[i]? = some v→j<size→cs'[(i0+i)*size+j]? = v.cells[j]?
 | [],i0,cs,_,_=>⟨cs,rfl,rfl,fun _ _=>rfl,fun i j v h=>by simp at h⟩
 | v::vs,i0,cs,hv,hsz=>by
   have hv0:v.cells.size=size:=hv v (by simp)
   simp only [List.length_cons] at hsz
   have hm:(i0+(vs.length+1))*size=i0*size+(vs.length*size+size):=by rw [Nat.add_mul,Nat.succ_mul]
   have hle:i0*size+v.cells.size≤cs.size:=by
    rw [hv0];omega
   obtain ⟨f1,f2⟩:=z2i (i0*size) v cs hle
   obtain ⟨cs',h1,h2,h3,h4⟩:=z3i size vs (i0+1) (v.cells.zipIdx.foldl (fun cs (c,j)=>cs.setIfInBounds (i0*size+j) c) cs) (fun x hx=>hv x (by simp [hx]))
    (by rw [f1,show i0+1+vs.length=i0+(vs.length+1) by omega];exact hsz)
   refine ⟨cs',?_,by rw [h2,f1],fun k hk => ?_,fun i j x hx hj => ?_⟩
   ·simp only [List.zipIdx_cons,List.map_cons,Instr.fill]
    rw [if_neg (by simp only [ne_eq,Bool.or_eq_true,decide_eq_true_eq,not_or,Decidable.not_not];omega)]
    exact h1
   ·rw [h3 k (by rw [Nat.succ_mul];omega),f2 k,if_neg (by omega)]
   ·cases i with
    | zero =>
      simp at hx;subst hx
      rw [Nat.add_zero,h3 _ (by rw [Nat.succ_mul];omega),f2 _,if_pos (by omega)]
      rw [show i0*size+j - i0*size=j by omega]
    | succ i =>
      simp at hx
      have:=h4 i j x hx hj
      rw [show i0+(i+1)=i0+1+i by omega];exact this
theorem z0a:∀ (parts:List (Nat×Value)) (i0:Nat),parts.map (·.1)=List.range' i0 parts.length→parts=((parts.map (·.2)).zipIdx i0).map fun p=>(p.2,p.1)
 | [],_,_=>rfl
 | (i,v)::parts,i0,h=>by
   simp only [List.map_cons,List.length_cons,List.range'_succ,List.cons.injEq] at h
   obtain ⟨rfl,h⟩:=h
   simp only [List.map_cons,List.zipIdx_cons]
   rw [←z0a parts _ h]
theorem z0c (hs:Sim G σ w) {id:Nat} (hρ:G.ρ id=none) (hσ:σ id=none) {esz:Nat} {es:List (List AV)} {cs:Array Value} (t:TypeId)
 (hl:∀ e ∈ es,e.length=esz) (hf:∀ e ∈ es,∀ c ∈ e,c.flat=true) (hsz:es.length*esz≤cs.size)
 (hv:∀ i j (hi:i<es.length) (hj:j<(es[i]'hi:List AV).length),VRel G w ((es[i]'hi:List AV)[j]'hj) (cs.getD (i*esz+j) undef)) :
 ∃ G',Ext G σ w G' (σ.set id (.arr esz es)) (w.alloc (.cells cs t (0,0)))∧Sim G' (σ.set id (.arr esz es)) (w.alloc (.cells cs t (0,0)))∧G'.ρ id=some (w.heap.size,0):=by
 refine hs.alloc hρ hσ _ fun G' hr hI hid => ?_
 refine .arr (xh _) (by omega) hl hf fun i j hi hj => ?_
 rw [Nat.zero_add]
 exact z5x hs _ hr hI (hv i j hi hj)
theorem wj (cs:Array Value) (t:TypeId):(w.alloc (.cells cs t (0,0))).shape? w.heap.size=some (t,cs.size):=by
 simp only [World.shape?,xh]
set_option maxHeartbeats 400000 in
theorem zbg {t e:TypeId} {n s:Nat} {parts:Array (Nat×Operand)} {ys:List Opd} {as:List AV} {o:Obj} {f:Nat→AV} {id:Nat} (hs:Sim G σ w) (H:OpdOk G w ev oev)
 (hd:P.underlying t=some (.slice e)) (hsz:tsz P e=some s) (hrange:parts.toList.map (·.1)=List.range n) (hbig:n*s≤16777216) (hzero:n*s=0∨(tzero P e).isSome)
 (hys:parts.toList.mapM (fun x=>compOpd x.2)=some ys) (has:ys.mapM oev=some as) (hp:alv (.mksl s n) as=some (o,f)) (hρ:G.ρ id=none) (hσ:σ id=none) :
 ∃ v w' G',GivesW P ev (.buildSlice t n parts) w v w'∧Ext G σ w G' (σ.set id o) w'∧Sim G' (σ.set id o) w'∧VRel G' w' (f id) v:=by
 simp only [alv] at hp
 split at hp
 ·rename_i hlen
  obtain ⟨hlen,hall⟩:=hlen
  cases hp
  have hrel:Rels (fun (a:AV) (q:Nat×Operand)=>VRel G w a (ev q.2)) as parts.toList :=
   xg H (f:=fun x:Nat×Operand=>compOpd x.2) (g:=fun x=>x.2) (fun x y h=>h) parts.toList _ as hys has
  have hrel2:Rels (VRel G w) as (parts.toList.map fun x=>ev x.2):=Rels.map_right hrel
  have hpl:parts.toList.length=n:=by rw [←hrel.length,hlen]
  generalize hvs:parts.toList.map (fun x=>ev x.2)=vs at hrel2
  have hvl:vs.length=n:=by rw [←hvs];simp;simpa using hpl
  have hat:∀ a ∈ as,a.isTup=false∧a.cells.length=s:=fun a ha=>by
   have:=List.all_eq_true.1 hall a ha
   simpa using this
  have hvc:∀ v ∈ vs,v.cells.size=s:=fun v hv=>by
   obtain ⟨k,hk⟩:=List.getElem?_of_mem hv
   obtain ⟨hk',rfl⟩:=List.getElem?_eq_some_iff.1 hk
   have hka:k<as.length:=by rw [hrel2.length];exact hk'
   obtain ⟨b,hb,hr⟩:=hrel2.get k _ (List.getElem?_eq_getElem hka)
   rw [hk] at hb;cases hb
   have ht:=hat _ (List.getElem_mem hka)
   rw [←(hr.cells_rel (fun vs e=>by rw [e] at ht;cases ht.1)).1,ht.2]
  have hmap:(parts.map fun (i,x)=>(i,ev x)).toList=(vs.zipIdx 0).map fun p=>(p.2,p.1):=by
   have hh:=z0a (parts.toList.map fun x=>(x.1,ev x.2)) 0 (by
    rw [List.map_map]
    have:((fun x:Nat×Value=>x.1) ∘ fun x:Nat×Operand=>(x.1,ev x.2))=(fun x=>x.1):=rfl
    rw [this,hrange,List.length_map,hpl,List.range_eq_range'])
   rw [List.map_map] at hh
   have e2:((fun x:Nat×Value=>x.2) ∘ fun x:Nat×Operand=>(x.1,ev x.2))=(fun x=>ev x.2):=rfl
   rw [e2,hvs] at hh
   rw [←hh];simp
  have hz:∃ zc:Array Value,(n*s=0∧zc = #[])∨(n*s≠0∧∃ zv,(zeroValue e).run P w = .ok zv w∧zc=zv.cells):=by
   by_cases h0:n*s=0
   ·exact ⟨#[],.inl ⟨h0,rfl⟩⟩
   ·rcases hzero with h | h
    ·exact absurd h h0
    ·obtain ⟨z,hz⟩:=Option.isSome_iff_exists.1 h
     obtain ⟨zv,hz1,_⟩:=z1i (P:=P) (w:=w) hz
     exact ⟨zv.cells,.inr ⟨h0,zv,hz1,rfl⟩⟩
  obtain ⟨zc,hzc⟩:=hz
  obtain ⟨cs',f1,f2,f3,f4⟩:=z3i s vs 0 ((Array.range (n*s)).map (zc[· % zc.size]!)) hvc (by simp [hvl])
  have hrun:(Instr.buildSlice t n (parts.map fun (i,x)=>(i,ev x))).run P w = .ok (.slice (some ⟨w.heap.size,0,none⟩) n n) (w.alloc (.cells cs' e (0,0))):=by
   unfold Instr.buildSlice
   simp only [Sem.run_bind,zj hd,Result.andThen_ok,y9 hsz]
   rw [if_neg (by omega)]
   rcases hzc with ⟨h0,rfl⟩ | ⟨h0,zv,hz1,rfl⟩
   ·rw [if_pos h0]
    simp only [pure_bind,hmap,f1,newRow,Sem.run_bind,run_newObj,Result.andThen_ok,Sem.run_pure]
    rfl
   ·rw [if_neg h0]
    simp only [Sem.run_bind,hz1,Result.andThen_ok,pure_bind,hmap,f1,newRow,run_newObj,Sem.run_pure]
    rfl
  have hcs:cs'.size=n*s:=by rw [f2];simp
  obtain ⟨G',g1,g2,g3⟩:=z0c (es:=as.map AV.cells) (esz:=s) (cs:=cs') hs hρ hσ e
   (fun c hc=>by obtain ⟨a,ha,rfl⟩:=List.mem_map.1 hc;exact (hat a ha).2)
   (fun c hc x hx=>by
     obtain ⟨a,ha,rfl⟩:=List.mem_map.1 hc
     obtain ⟨k,hk⟩:=List.getElem?_of_mem ha
     obtain ⟨v,hv,hr⟩:=hrel2.get k a hk
     exact (hr.cells_rel (fun vs e=>by have:=hat a ha;rw [e] at this;cases this.1)).2.1 x hx)
   (by simp [hcs,hlen])
   (fun i j hi hj=>by
     have hi':i<as.length:=by simpa using hi
     obtain ⟨v,hv,hr⟩:=hrel2.get i _ (List.getElem?_eq_getElem hi')
     have ha:=hat _ (List.getElem_mem hi')
     simp only [List.getElem_map] at hj ⊢
     obtain ⟨r1,r2,r3⟩:=hr.cells_rel (fun vs e=>by rw [e] at ha;cases ha.1)
     obtain ⟨x,hx,hxr⟩:=r3 j _ (List.getElem?_eq_getElem hj)
     have:=f4 i j v hv (by omega)
     rw [Nat.zero_add,hx] at this
     rw [Array.getD_eq_getD_getElem?,this];exact hxr)
  refine ⟨.slice (some ⟨w.heap.size,0,none⟩) n n,w.alloc (.cells cs' e (0,0)),G',fun dst ty pos after guard => ?_,g1,g2,?_⟩
  ·show (do pure (.value (←Instr.buildSlice t n (parts.map fun (i,x)=>(i,ev x)))):Sem Next).run P w=_
   simp only [Sem.run_bind,hrun,Result.andThen_ok,Sem.run_pure]
  ·have:=VRel.os (w:=w.alloc (.cells cs' e (0,0))) (esz:=s) (off:=0) (len:=n) (c:=n) g3 (Nat.le_refl _) ⟨e,cs'.size,wj _ _,by rw [hcs];simp⟩
   simpa using this
 ·cases hp
theorem zbe {t e:TypeId} {sz:Nat} {z:List AV} {i:TypeInfo} {l c:Operand} {p q:AV} {o:Obj} {f:Nat→AV} {id:Nat} (hs:Sim G σ w)
 (hd:P.underlying t=some (.slice e)) (hsz:tsz P e=some sz) (hz:tzero P e=some z) (hi:P.info? e=some i) (hzl:z.length=sz)
 (hl:VRel G w p (ev l)) (hc:VRel G w q (ev c)) (hp:alv (.make sz z i.bytes) [p,q]=some (o,f)) (hρ:G.ρ id=none) (hσ:σ id=none) :
 ∃ v w' G',GivesW P ev (.makeSlice t l c) w v w'∧Ext G σ w G' (σ.set id o) w'∧Sim G' (σ.set id o) w'∧VRel G' w' (f id) v:=by
 obtain ⟨n,m,rfl,rfl⟩:∃ n m,p = .int .i64 n∧q = .int .i64 m:=by
  unfold alv at hp
  split at hp <;> first
   | (rename_i h1 h2;simp at h1 h2;done)
   | cases hp
   | skip
  all_goals (rename_i h2;simp at h2;exact ⟨_,_,h2.1,h2.2⟩)
 simp only [alv] at hp
 split at hp
 ·rename_i hcond
  obtain ⟨rfl,h0,h1,h2⟩:=hcond
  cases hp
  obtain ⟨zv,hz1,hz2⟩:=xj (G:=G) (w:=w) hz
  obtain ⟨z1,z2,z3⟩:=hz2
  have hw:IntKind.i64.wrap n=n:=IntWalk.i64_in n (by omega)
  let cells:Array Value:=(Array.range (n.toNat*sz)).map fun k=>zv.cells[k % zv.cells.size]!
  have hcsz:cells.size=n.toNat*sz:=by simp [cells]
  have hrun:(Instr.makeSlice t (ev l) (ev c)).run P w = .ok (.slice (some ⟨w.heap.size,0,none⟩) n.toNat n.toNat) (w.alloc (.cells cells e (0,0))):=by
   rw [hl.of_int,hc.of_int]
   unfold Instr.makeSlice
   simp only [Sem.run_bind,zj hd,Result.andThen_ok,asInt,yh,zy hi,Sem.run_pure,hw]
   have h2':(i.bytes:Int)*n≤281474976710656:=by rw [Int.mul_comm];exact h2
   rw [if_neg (by
    simp only [Bool.or_eq_true,decide_eq_true_eq]
    omega)]
   simp only [Sem.run_bind,run_askRoom,Result.andThen_ok,y9 hsz]
   by_cases h00:n.toNat*sz=0
   ·rw [if_pos h00]
    have:(Array.range (n.toNat*sz)).map (fun k=>(#[]:Array Value)[k % (#[]:Array Value).size]!)=cells:=by
     apply Array.ext
     ·simp [cells]
     ·intro k h1 h2;simp [h00] at h1
    simp only [pure_bind,newRow,Sem.run_bind,run_newObj,Result.andThen_ok,Sem.run_pure,this]
    rfl
   ·rw [if_neg h00]
    simp only [Sem.run_bind,hz1,Result.andThen_ok,pure_bind,newRow,run_newObj,Sem.run_pure]
    rfl
  have hzs:zv.cells.size=sz:=by omega
  obtain ⟨G',g1,g2,g3⟩:=z0c (es:=List.replicate n.toNat z) (esz:=sz) (cs:=cells) hs hρ hσ e
   (fun x hx=>by rw [List.eq_of_mem_replicate hx];exact hzl)
   (fun x hx c hc=>by rw [List.eq_of_mem_replicate hx] at hc;exact z2 c hc)
   (by simp [hcsz])
   (fun a j ha hj=>by
     simp only [List.getElem_replicate] at hj ⊢
     simp only [List.length_replicate] at ha
     obtain ⟨x,hx,hr⟩:=z3 j _ (List.getElem?_eq_getElem hj)
     have hlt:a*sz+j<n.toNat*sz:=by
      have:=Nat.mul_le_mul_right sz (Nat.succ_le_of_lt ha)
      rw [Nat.succ_mul] at this;omega
     have hmod:(a*sz+j) % sz=j:=by rw [Nat.mul_comm,Nat.mul_add_mod];exact Nat.mod_eq_of_lt (by omega)
     have:cells.getD (a*sz+j) undef=x:=by
      rw [Array.getD_eq_getD_getElem?]
      simp only [cells,Array.getElem?_map,Array.getElem?_range,if_pos hlt,Option.map_some,hzs,hmod,Option.getD_some]
      rw [Array.getElem!_eq_getD,Array.getD_eq_getD_getElem?,hx];rfl
     rw [this];exact hr)
  refine ⟨.slice (some ⟨w.heap.size,0,none⟩) n.toNat n.toNat,w.alloc (.cells cells e (0,0)),G',fun dst ty pos after guard => ?_,g1,g2,?_⟩
  ·show (do pure (.value (←Instr.makeSlice t (ev l) (ev c))):Sem Next).run P w=_
   simp only [Sem.run_bind,hrun,Result.andThen_ok,Sem.run_pure]
  ·have:=VRel.os (w:=w.alloc (.cells cells e (0,0))) (esz:=sz) (off:=0) (len:=n.toNat) (c:=n.toNat) g3 (Nat.le_refl _) ⟨e,cells.size,wj _ _,by rw [hcsz];simp⟩
   simpa using this
 ·cases hp
theorem z8s {op:Op} {ak:AK} {xs:List Opd} {as:List AV} {o:Obj} {f:Nat→AV} {id:Nat} (hs:Sim G σ w) (H:OpdOk G w ev oev)
 (hc:compAlloc P op=some (ak,xs)) (has:xs.mapM oev=some as) (hp:alv ak as=some (o,f)) (hρ:G.ρ id=none) (hσ:σ id=none) :
 ∃ v w' G',GivesW P ev op w v w'∧Ext G σ w G' (σ.set id o) w'∧Sim G' (σ.set id o) w'∧VRel G' w' (f id) v:=by
 unfold compAlloc at hc
 simp only [Option.bind_eq_bind,Option.pure_def] at hc
 split at hc
 ·rename_i t
  obtain ⟨z,hz,hc⟩:=z9 hc
  cases hc
  simp at has;subst has
  cases hp
  obtain ⟨zv,h1,h2⟩:=xj (G:=G) (w:=w) hz
  obtain ⟨G',g1,g2,g3⟩:=z56 hs hρ hσ t h2
  exact ⟨_,_,G',qw (s:=Instr.alloc t true (.tuple #[])) (fun _ _ _ _ _=>rfl) (by simp [Instr.alloc,h1,z1e];rfl),g1,g2,by
   have:=VRel.ptr (w:=w.alloc (.cells zv.cells t (0,0))) (off:=0) g3
   simpa using this⟩
 ·rename_i t x
  obtain ⟨X,hX,hc⟩:=z9 hc
  cases hc
  obtain ⟨p,h1,rfl⟩:=yg has
  have hx:=H x X p hX h1
  simp only [alv] at hp
  split at hp
  ·cases hp
  ·rename_i ht
   cases hp
   have htf:∀ vs,p ≠ .tup vs:=fun vs e=>by subst e;exact ht rfl
   obtain ⟨G',g1,g2,g3⟩:=z56 hs hρ hσ t (hx.cells_rel htf)
   exact ⟨_,_,G',qw (s:=Instr.box t (ev x)) (fun _ _ _ _ _=>rfl) (by simp [Instr.box,z1e];rfl),g1,g2,by
    have:=VRel.ptr (w:=w.alloc (.cells (ev x).cells t (0,0))) (off:=0) g3
    simpa using this⟩
 ·rename_i t n parts
  obtain ⟨d,hd,hc⟩:=z9 hc
  split at hc
  ·rename_i e
   obtain ⟨s,hsz,hc⟩:=z9 hc
   split at hc
   ·rename_i hcond
    obtain ⟨hrange,hbig,hzero⟩:=hcond
    obtain ⟨ys,hys,hc⟩:=z9 hc
    cases hc
    exact zbg hs H hd hsz hrange hbig hzero hys has hp hρ hσ
   ·cases hc
  ·cases hc
 ·cases hc
  simp at has;subst has
  cases hp
  obtain ⟨G',g1,g2,g3⟩:=hs.alloc hρ hσ (.map #[] 0) (o := .map []) (fun G' hr hI hid =>
   .map (ents := #[]) (clock:=0) (xh _) rfl rfl (fun k h=>by simp at h) (fun k h=>by simp at h) (fun i j h=>by simp at h))
  rename_i t
  exact ⟨_,_,G',qw (s:=Instr.makeMap t none) (fun _ _ _ _ _=>rfl) (by simp [Instr.makeMap]),g1,g2,.mp g3⟩
 ·rename_i t l c
  obtain ⟨d,hd,hc⟩:=z9 hc
  split at hc
  ·rename_i e
   obtain ⟨s,hsz,hc⟩:=z9 hc
   obtain ⟨z,hz,hc⟩:=z9 hc
   obtain ⟨i,hi,hc⟩:=z9 hc
   split at hc
   ·rename_i hzl
    obtain ⟨L,hL,hc⟩:=z9 hc
    obtain ⟨C,hC,hc⟩:=z9 hc
    cases hc
    obtain ⟨p,q,h1,h2,rfl⟩:=yr has
    have hl:=H l L p hL h1
    have hcv:=H c C q hC h2
    exact zbe hs hd hsz hz hi hzl hl hcv hp hρ hσ
   ·cases hc
  ·cases hc
 ·cases hc
end
end Go.Am
namespace Go.Am
section
variable {P:Program} {w:World} {G:Gh} {σ:Store} {ev:Operand→Value} {oev:Opd→Option AV}
theorem Sim.move (hs:Sim G σ w) {id id':Nat} {o o':Obj} {b base base':Nat} (hσ:σ id=some o) (hρ:G.ρ id=some (b,base)) (hρ':G.ρ id'=none) {w':World}
 (htape:w'.tape=w.tape) (hos:w'.os=w.os) (hout:w'.output=w.output) (hdr:w.drawn≤w'.drawn)
 (hsize:w'.heap.size=w.heap.size) (hother:∀ c,c≠b→w'.heap[c]? = w.heap[c]?) (hshape:w'.shape? b=w.shape? b)
 (hnew:∀ G':Gh,(∀ a v,VRel G w a v→VRel G' w' a v)→ORel G' w' b base' o') :
 ∃ G',Ext G σ w G' ((σ.del id).set id' o') w'∧Sim G' ((σ.del id).set id' o') w'∧G'.ρ id'=some (b,base'):=by
 let G':Gh:=⟨fun i=>if i=id' then some (b,base') else G.ρ i,G.I⟩
 have hid':G'.ρ id'=some (b,base'):=by simp [G']
 have hG:∀ i,i≠id'→G'.ρ i=G.ρ i:=fun i hi=>by simp [G',hi]
 have hρρ:∀ i x,G.ρ i=some x→G'.ρ i=some x:=fun i x hx=>by
  have:i≠id':=fun e=>by subst e;rw [hρ'] at hx;cases hx
  rw [hG i this];exact hx
 have hsh:∀ c,w'.shape? c=w.shape? c:=fun c=>by
  by_cases hc:c=b
  ·rw [hc];exact hshape
  ·simp only [World.shape?,hother c hc]
 have hown:own G σ b:=⟨id,o,base,hσ,hρ⟩
 have hold:∀ i oi,i≠id'→((σ.del id).set id' o') i=some oi→σ i=some oi∧i≠id:=fun i oi hi h=>by
  rw [Store.set_ne _ _ hi] at h
  by_cases hii:i=id
  ·subst hii;simp at h
  ·rw [Store.del_ne _ hii] at h;exact ⟨h,hii⟩
 have hext:Ext G σ w G' ((σ.del id).set id' o') w' :=
  { tape:=htape,os:=hos,output:=hout,size:=by omega
    keep:=fun c _ hn=>hother c (fun e=>hn (e ▸ hown))
    shape:=fun c _=>hsh c
    ρ:=hρρ,I:=fun _ h=>h,newI:=fun _ h => .inl h
    newOwn:=fun c ⟨i,oi,bi,h1,h2⟩=>by
     by_cases hi:i=id'
     ·subst hi;rw [hid'] at h2;cases h2;exact .inl hown
     ·rw [hG i hi] at h2;exact .inl ⟨i,oi,bi,(hold i oi hi h1).1,h2⟩
    newId:=fun i oi h1=>by
     by_cases hi:i=id'
     ·subst hi;exact .inr hρ'
     ·exact .inl ⟨oi,(hold i oi hi h1).1⟩ }
 have hv:∀ a v,VRel G w a v→VRel G' w' a v:=fun a v h=>hext.vrel hs h
 refine ⟨G',hext,?_,hid'⟩
 exact
  { lt:=fun c hc=>by rw [hsize];exact hs.lt c hc
    fin:=by
     obtain ⟨N,hN⟩:=hs.fin
     exact ⟨max N (id'+1),fun i hi=>by rw [hG i (by omega)];exact hN i (by omega)⟩
    blk:=fun i c bi h=>by
     by_cases hi:i=id'
     ·subst hi;rw [hid'] at h;cases h;rw [hsize];exact hs.blk id _ _ hρ
     ·rw [hG i hi] at h;rw [hsize];exact hs.blk i c bi h
    used:=fun i oi h1=>by
     by_cases hi:i=id'
     ·subst hi;simp at h1;subst h1;exact ⟨b,base',hid',hnew G' hv⟩
     ·obtain ⟨h2,h3⟩:=hold i oi hi h1
      obtain ⟨c,bi,h4,h5⟩:=hs.used i oi h2
      refine ⟨c,bi,by rw [hG i hi];exact h4,h5.grow (hother c ?_) hv⟩
      intro e;subst e
      exact h3 (hs.inj i id oi o _ _ _ h2 hσ h4 hρ)
    inj:=fun i j oi oj c bi bj h1 h2 h3 h4=>by
     by_cases hi:i=id' <;> by_cases hj:j=id'
     ·rw [hi,hj]
     ·subst hi;rw [hid'] at h3;cases h3
      obtain ⟨h5,h6⟩:=hold j oj hj h2
      rw [hG j hj] at h4
      exact absurd (hs.inj j id oj o _ _ _ h5 hσ h4 hρ) h6
     ·subst hj;rw [hid'] at h4;cases h4
      obtain ⟨h5,h6⟩:=hold i oi hi h1
      rw [hG i hi] at h3
      exact absurd (hs.inj i id oi o _ _ _ h5 hσ h3 hρ) h6
     ·rw [hG i hi] at h3;rw [hG j hj] at h4
      exact hs.inj i j oi oj c bi bj (hold i oi hi h1).1 (hold j oj hj h2).1 h3 h4
    apart:=fun i oi c bi h1 h2=>by
     by_cases hi:i=id'
     ·subst hi;rw [hid'] at h2;cases h2;exact hs.apart id o _ _ hσ hρ
     ·rw [hG i hi] at h2;exact hs.apart i oi c bi (hold i oi hi h1).1 h2 }
theorem z1z {size n:Nat} {blk o:Nat} {f:Nat→Value} {len c:Nat} (h:∀ k,k<n*size→w.cell? ⟨blk,o+k,none⟩=some (f k)) :
 (Builtin.firstCells size n (.slice (some ⟨blk,o,none⟩) len c)).run P w = .ok ((List.range (n*size)).map f).toArray w:=by
 unfold Builtin.firstCells
 exact run_loadCells w ⟨blk,o,none⟩ (n*size) f (fun j hj=>by rw [x6];exact h j hj)
theorem yp {size:Nat} {b:Option Addr} {len c:Nat}:(Builtin.firstCells size 0 (.slice b len c)).run P w = .ok #[] w:=by
 unfold Builtin.firstCells
 cases b
 ·simp
 ·simp [loadCells,loadCellsFrom]
theorem z2k (newLen:Nat) (h256:256≤newLen):∀ (r c:Nat),c≤2*newLen→(c<newLen→256≤c)→Builtin.growBy newLen r c≤2*newLen
 | 0,c,h,_=>h
 | r+1,c,h,h'=>by
   unfold Builtin.growBy
   split
   ·exact h
   ·rename_i hlt
    have:=h' (by omega)
    exact z2k newLen h256 r _ (by omega) (fun _=>by omega)
theorem z62 {need cap:Nat} (h:cap<need):Builtin.nextslicecap need cap≤2*need:=by
 unfold Builtin.nextslicecap
 split
 ·omega
 ·split
  ·omega
  ·exact z2k need (by omega) 4 cap (by omega) (fun _=>by omega)
theorem z04 (b:Option Addr) (n c:Nat):(Builtin.lenOf (.slice b n c)).run P w = .ok n w:=rfl
theorem xn {sT xT e:TypeId} {size:Nat} {d:TypeDesc} {base xb:Option Addr} {sLen sCap n xc:Nat} {new:Array Value} {w':World} {ty:TypeId}
 (hs:P.underlying sT=some (.slice e)) (hsz:tsz P e=some size) (hx:P.underlying xT=some d) (hd:∀ k,d ≠ .int k)
 (hfit:sLen+n≤sCap) (hnew:(Builtin.firstCells size n (.slice xb n xc)).run P w = .ok new w)
 (hst:(match base with | some a=>storeCells (a.add (sLen*size)) new.toList | none=>pure ()).run P w = .ok () w') :
 (Builtin.append_ #[sT,xT] ty #[.slice base sLen sCap,.slice xb n xc]).run P w = .ok (.slice base (sLen+n) sCap) w':=by
 have hz:(match d with | .int _=>true | _=>false)=false:=by cases d <;> first | rfl | exact absurd rfl (hd _)
 unfold Builtin.append_
 simp only [List.getElem?_toArray,List.getElem?_cons_zero,List.getElem?_cons_succ,Sem.run_bind,zj hs,zj hx,Result.andThen_ok,y9 hsz,Sem.run_pure,hz]
 simp only [Bool.false_eq_true,if_false,Sem.run_bind,z04,Result.andThen_ok,Bool.not_false,if_true]
 rw [if_pos hfit]
 simp only [Sem.run_bind,hnew,Result.andThen_ok]
 cases base with
 | none =>
   simp only [Sem.run_pure] at hst
   cases hst;rfl
 | some a=>simp only [Sem.run_bind,hst,Result.andThen_ok,Sem.run_pure]
end
end Go.Am
namespace Go.Am
section
variable {P:Program} {w:World} {G:Gh} {σ:Store} {ev:Operand→Value} {oev:Opd→Option AV}
theorem z1k:IntKind.i64.max=9223372036854775807:=by decide
theorem z35 {sT xT e:TypeId} {size:Nat} {d:TypeDesc} {i:TypeInfo} {base xb:Option Addr} {sLen sCap n xc:Nat} {old new:Array Value} {zv:Value} {ty:TypeId}
 (hs:P.underlying sT=some (.slice e)) (hsz:tsz P e=some size) (hx:P.underlying xT=some d) (hd:∀ k,d ≠ .int k) (hi:P.info? e=some i) (hb:1≤i.bytes)
 (hfit:sCap<sLen+n) (hroom:(sLen+n)*i.bytes≤140737488355328)
 (hold:∀ w',w'.heap=w.heap→(Builtin.firstCells size sLen (.slice base sLen sCap)).run P w' = .ok old w')
 (hnew:∀ w',w'.heap=w.heap→(Builtin.firstCells size n (.slice xb n xc)).run P w' = .ok new w') (hz:∀ w',(zeroValue e).run P w' = .ok zv w') :
 ∃ newCap,sLen+n≤newCap∧(Builtin.append_ #[sT,xT] ty #[.slice base sLen sCap,.slice xb n xc]).run P w =
   .ok (.slice (some ⟨w.heap.size,0,none⟩) (sLen+n) newCap) (w.drew.alloc (.cells (old++new++Builtin.zeroCells zv.cells (newCap - (sLen+n))) e (0,0))):=by
 have hz':(match d with | .int _=>true | _=>false)=false:=by cases d <;> first | rfl | exact absurd rfl (hd _)
 have hle:sLen+n≤140737488355328:=by
  have:=Nat.mul_le_mul_left (sLen+n) hb
  omega
 have hcap:Builtin.nextslicecap (sLen+n) sCap*i.bytes≤281474976710656:=by
  have:=Nat.mul_le_mul_right i.bytes (z62 hfit)
  rw [Nat.mul_assoc] at this;omega
 refine ⟨(Question.appendCap (sLen+n) sCap e).cut (w.tape w.drawn (.appendCap (sLen+n) sCap e)),by simp only [Question.cut];omega,?_⟩
 generalize hq:(Question.appendCap (sLen+n) sCap e).cut (w.tape w.drawn (.appendCap (sLen+n) sCap e))=newCap
 unfold Builtin.append_
 simp only [List.getElem?_toArray,List.getElem?_cons_zero,List.getElem?_cons_succ,Sem.run_bind,zj hs,zj hx,Result.andThen_ok,y9 hsz,Sem.run_pure,hz']
 simp only [Bool.false_eq_true,if_false,Sem.run_bind,z04,Result.andThen_ok,Bool.not_false,if_true,zy hi]
 rw [if_neg (by omega)]
 simp only [Sem.run_bind,zy hi,Result.andThen_ok]
 rw [if_neg (by rw [z1k];omega),]
 simp only [Sem.run_bind,zy hi,Result.andThen_ok]
 rw [if_neg (by omega)]
 simp only [Sem.run_bind,run_choose,Question.forced,Bool.false_eq_true,if_false,Result.andThen_ok,hq,zy hi,run_askRoom]
 have h1:=hold w.drew rfl
 have h2:=hnew w.drew rfl
 have h3:=hz w.drew
 show ((Builtin.firstCells size sLen (.slice base sLen sCap)).run P w.drew).andThen _=_
 simp only [h1,Result.andThen_ok,Sem.run_bind,h2,h3,newRow,run_newObj,Sem.run_pure]
 rfl
theorem Ext.drew (G:Gh) (σ:Store) (w:World):Ext G σ w G σ w.drew :=
 { Ext.refl G σ w with }
def appwp (esz bytes:Nat) (x y:AV) (σ:Store) (K:AV→Store→Prop):Prop :=
 match slc σ esz x,slc σ esz y with
 | some xs,some ys=>(xs.length+ys.length)*bytes≤140737488355328 ∧
   match x with
   | .nils=>(ys=[]→K .nils σ)∧(ys≠[]→∀ id,σ id=none→K (.os id esz 0 ys.length) (σ.set id (.arr esz ys)))
   | .os id0 _ _ _=>(∀ id,σ id=none→K (.os id esz 0 (xs.length+ys.length)) ((σ.del id0).set id (.arr esz (xs++ys)))) ∨
     (σ id0=some (.arr esz xs)∧K (.os id0 esz 0 (xs.length+ys.length)) (σ.set id0 (.arr esz (xs++ys)))∧∀ id,σ id=none→K (.os id esz 0 (xs.length+ys.length)) (σ.set id (.arr esz (xs++ys))))
   | _=>False
 | _,_=>False
theorem uo {n k:Nat} {f:Nat→Value} (h:k<n):((List.range n).map f).toArray.getD k undef=f k:=by
 rw [Array.getD_eq_getD_getElem?,List.getElem?_toArray,List.getElem?_map,List.getElem?_range h];rfl
theorem yy {a b:Array Value} {k:Nat} (h:k<a.size):(a++b).getD k undef=a.getD k undef:=by
 simp only [Array.getD_eq_getD_getElem?,Array.getElem?_append_left h]
theorem z0i {a b:Array Value} {k:Nat} (h:a.size≤k):(a++b).getD k undef=b.getD (k - a.size) undef:=by
 simp only [Array.getD_eq_getD_getElem?,Array.getElem?_append_right h]
theorem ERel.append {esz:Nat} {xs ys:List (List AV)} {fx fy g:Nat→Value} (hx:ERel G w esz xs fx) (hy:ERel G w esz ys fy)
 (g1:∀ k,k<xs.length*esz→g k=fx k) (g2:∀ k,k<ys.length*esz→g (xs.length*esz+k)=fy k):ERel G w esz (xs++ys) g:=by
 obtain ⟨x1,x2,x3⟩:=hx
 obtain ⟨y1,y2,y3⟩:=hy
 refine ⟨fun e he=>(List.mem_append.1 he).elim (x1 e) (y1 e),fun e he=>(List.mem_append.1 he).elim (x2 e) (y2 e),fun i j hi hj => ?_⟩
 by_cases h:i<xs.length
 ·have e:(xs++ys)[i]=xs[i]:=List.getElem_append_left h
  have hj':j<esz:=by rw [←x1 _ (List.getElem_mem h),←e];exact hj
  simp only [e] at hj ⊢
  rw [g1 _ (z3q h hj')];exact x3 i j h hj
 ·have h':i - xs.length<ys.length:=by simp at hi;omega
  have e:(xs++ys)[i]=ys[i - xs.length]:=List.getElem_append_right (by omega)
  have hj':j<esz:=by rw [←y1 _ (List.getElem_mem h'),←e];exact hj
  simp only [e] at hj ⊢
  have:i*esz+j=xs.length*esz+((i - xs.length)*esz+j):=by
   rw [←Nat.add_assoc,←Nat.add_mul,show xs.length+(i - xs.length)=i by omega]
  rw [this,g2 _ (z3q h' hj')];exact y3 _ j h' hj
theorem ERel.nil (esz:Nat) (f:Nat→Value):ERel G w esz [] f:=⟨fun e he=>(nomatch he),fun e he=>(nomatch he),fun i j hi=>absurd hi (by simp)⟩
theorem z2q (hs:Sim G σ w) {esz:Nat} {x:AV} {v:Value} {es:List (List AV)} (hx:VRel G w x v) (h:slc σ esz x=some es) :
 ∃ b c,v = .slice b es.length c∧es.length≤c∧∃ f:Nat→Value,ERel G w esz es f ∧
   ∀ w':World,w'.heap=w.heap→(Builtin.firstCells esz es.length (.slice b es.length c)).run P w' = .ok ((List.range (es.length*esz)).map f).toArray w':=by
 obtain ⟨b,c,hv,hc,hcase⟩:=z27 hs hx h
 refine ⟨b,c,hv,hc,?_⟩
 rcases hcase with rfl | ⟨blk,o,rfl,f,hf,hcell⟩
 ·exact ⟨fun _=>undef,.nil _ _,fun w' _=>by simpa using yp⟩
 ·refine ⟨f,hf,fun w' hw'=>z1z fun k hk => ?_⟩
  have:=hcell k hk
  simp only [World.cell?,hw'] at this ⊢;exact this
theorem z0s (hs:Sim G σ w) {sT xT e:TypeId} {size:Nat} {d:TypeDesc} {i:TypeInfo} {z:List AV} {base xb:Option Addr} {sCap xc:Nat} {ty:TypeId} {xs ys:List (List AV)} {fx fy:Nat→Value}
 (hsT:P.underlying sT=some (.slice e)) (hsz:tsz P e=some size) (hxT:P.underlying xT=some d) (hd:∀ k,d ≠ .int k) (hi:P.info? e=some i) (hb:1≤i.bytes)
 (hz:tzero P e=some z) (hzl:z.length=size) (hfit:sCap<xs.length+ys.length) (hroom:(xs.length+ys.length)*i.bytes≤140737488355328)
 (hfx:ERel G w size xs fx) (hfy:ERel G w size ys fy)
 (hx:∀ w':World,w'.heap=w.heap→(Builtin.firstCells size xs.length (.slice base xs.length sCap)).run P w' = .ok ((List.range (xs.length*size)).map fx).toArray w')
 (hy:∀ w':World,w'.heap=w.heap→(Builtin.firstCells size ys.length (.slice xb ys.length xc)).run P w' = .ok ((List.range (ys.length*size)).map fy).toArray w')
 {σ1:Store} (hsub:σ1.sub σ) {id:Nat} (hρ:G.ρ id=none) (hid:σ1 id=none) :
 ∃ v w' G',(Builtin.append_ #[sT,xT] ty #[.slice base xs.length sCap,.slice xb ys.length xc]).run P w = .ok v w' ∧
   Ext G σ w G' (σ1.set id (.arr size (xs++ys))) w'∧Sim G' (σ1.set id (.arr size (xs++ys))) w'∧VRel G' w' (.os id size 0 (xs.length+ys.length)) v:=by
 obtain ⟨zv,hz1,hz2⟩:=xj (G:=G) (w:=w) hz
 have hz1':∀ w':World,(zeroValue e).run P w' = .ok zv w':=fun w'=>by
  obtain ⟨zv',h1,h2⟩:=z1i (P:=P) (w:=w') hz
  obtain ⟨zv2,h3,h4⟩:=z1i (P:=P) (w:=w) hz
  rw [hz1] at h3;cases h3
  unfold zeroValue at hz1 h1
  cases hinf:P.info? e with
  | none=>rw [hinf] at hi;cases hi
  | some ii =>
    simp only [Sem.run_bind,zy hinf,Result.andThen_ok] at hz1 h1
    cases hzz:ii.zero with
    | none=>simp [hzz] at hz1
    | some q =>
      simp [hzz] at hz1 h1
      unfold zeroValue
      simp [zy hinf,hzz,hz1]
 obtain ⟨newCap,hcap,hrun⟩:=z35 (ty:=ty) hsT hsz hxT hd hi hb hfit hroom hx hy hz1'
 have hzsz:zv.cells.size=size:=by rw [←hz2.1,hzl]
 have hs1:Sim G σ1 w.drew:=(hs.heap (w':=w.drew) rfl).sub hsub
 have h1:((List.range (xs.length*size)).map fx).toArray.size=xs.length*size:=by simp
 have h2:((List.range (ys.length*size)).map fy).toArray.size=ys.length*size:=by simp
 have h3:(Builtin.zeroCells zv.cells (newCap - (xs.length+ys.length))).size=(newCap - (xs.length+ys.length))*size:=by simp [Builtin.zeroCells,hzsz]
 have hadd:(xs.length+ys.length)*size=xs.length*size+ys.length*size:=Nat.add_mul _ _ _
 generalize hA:((List.range (xs.length*size)).map fx).toArray=A at hrun h1
 generalize hB:((List.range (ys.length*size)).map fy).toArray=B at hrun h2
 generalize hC:Builtin.zeroCells zv.cells (newCap - (xs.length+ys.length))=C at hrun h3
 have hE:ERel G w size (xs++ys) (fun k=>(A++B++C).getD k undef):=hfx.append hfy
  (fun k hk=>by
    show (A++B++C).getD k undef=fx k
    rw [yy (by simp;omega),yy (by omega),←hA,uo hk])
  (fun k hk=>by
    show (A++B++C).getD (xs.length*size+k) undef=fy k
    rw [yy (by simp;omega),z0i (by omega),h1,←hB,Nat.add_sub_cancel_left,uo hk])
 obtain ⟨e1,e2,e3⟩:=hE
 obtain ⟨G',g1,g2,g3⟩:=z0c (es:=xs++ys) (esz:=size) (cs:=A++B++C) hs1 hρ hid e e1 e2
  (by simp only [List.length_append,Array.size_append];omega)
  (fun a j ha hj=>by have h:=VRel.heap (w':=w.drew) (w:=w) rfl (e3 a j ha hj);exact h)
 refine ⟨_,_,G',hrun,((Ext.drew G σ w).sub hsub).trans g1,g2,?_⟩
 have hcell:newCap*size≤(A++B++C).size:=by
  simp only [Array.size_append,h1,h2,h3]
  have:newCap*size=(xs.length+ys.length)*size+(newCap - (xs.length+ys.length))*size:=by rw [←Nat.add_mul];congr 1;omega
  omega
 have:=VRel.os (w:=w.drew.alloc (.cells (A++B++C) e (0,0))) (esz:=size) (off:=0) (len:=xs.length+ys.length) (c:=newCap) g3 hcap ⟨e,_,wj _ _,by simpa using hcell⟩
 simpa using this
theorem Store.set_id {σ:Store} {id:Nat} {o:Obj} (h:σ id=some o):σ.set id o=σ:=by
 funext j
 simp only [Store.set]
 split
 ·rename_i e;subst e;exact h.symm
 ·rfl
theorem zdu {esz id esz' off len:Nat} {xs:List (List AV)} (h:slc σ esz (.os id esz' off len)=some xs) :
 esz'=esz∧∃ es,σ id=some (.arr esz es)∧off+len≤es.length∧xs=(es.drop off).take len∧xs.length=len:=by
 simp only [slc] at h
 split at h
 ·rename_i e2 es hσ
  split at h
  ·rename_i hc
   obtain ⟨rfl,rfl,hle⟩:=hc
   cases h
   exact ⟨rfl,es,hσ,hle,rfl,by simp;omega⟩
  ·cases h
 ·cases h
theorem zd0 (hs:Sim G σ w) {sT xT e:TypeId} {size:Nat} {d:TypeDesc} {i:TypeInfo} {z:List AV} {ty:TypeId} {x y:AV} {vx vy:Value} {K:AV→Store→Prop}
 (hsT:P.underlying sT=some (.slice e)) (hsz:tsz P e=some size) (hxT:P.underlying xT=some d) (hd:∀ k,d ≠ .int k) (hi:P.info? e=some i) (hb:1≤i.bytes)
 (hz:tzero P e=some z) (hzl:z.length=size) (hx:VRel G w x vx) (hy:VRel G w y vy) (hK:appwp size i.bytes x y σ K) :
 ∃ v w' G' σ' av,(Builtin.append_ #[sT,xT] ty #[vx,vy]).run P w = .ok v w'∧Ext G σ w G' σ' w'∧Sim G' σ' w'∧VRel G' w' av v∧K av σ':=by
 unfold appwp at hK
 split at hK
 ·rename_i xs ys hxs hys
  obtain ⟨hroom,hK⟩:=hK
  obtain ⟨yb,yc,rfl,hyc,fy,hfy,hyrun⟩:=z2q (P:=P) hs hy hys
  obtain ⟨id,hidρ,hidσ⟩:=hs.fresh
  split at hK
  ·
   have e1:=hx.of_nils
   subst e1
   simp only [slc,Option.some.injEq] at hxs
   subst hxs
   obtain ⟨hK1,hK2⟩:=hK
   by_cases hne:ys=[]
   ·subst hne
    refine ⟨_,w,G,σ,.nils,xn (w':=w) (new := #[]) hsT hsz hxT hd (by simp) yp (by simp),Ext.refl _ _ _,hs,.nils,hK1 rfl⟩
   ·have hpos:0<ys.length:=List.length_pos_iff.2 hne
    obtain ⟨v,w',G',h1,h2,h3,h4⟩:=z0s (ty:=ty) (xs:=[]) (base:=none) (sCap:=0) (fx:=fun _=>undef) hs hsT hsz hxT hd hi hb hz hzl (by simpa using hpos) (by simpa using hroom) (ERel.nil _ _) hfy
     (fun w' _=>by simpa using yp) hyrun (Store.sub_refl σ) hidρ hidσ
    simp only [List.length_nil,List.nil_append,Nat.zero_add] at h1 h2 h3 h4
    exact ⟨v,w',G',_,_,h1,h2,h3,h4,hK2 hne id hidσ⟩
  ·
   rename_i id0 esz' off len
   obtain ⟨hesz,es,hσ,hle,hxe,hxl⟩:=zdu hxs
   obtain rfl:=hesz.symm
   obtain ⟨xb,xc,hv,hxc,fx,hfx,hxrun⟩:=z2q (P:=P) hs hx hxs
   subst hv
   have hdel:((σ.del id0) id)=none:=by
    simp only [Store.del];split
    ·rfl
    ·exact hidσ
   rcases hK with hK | ⟨hK0,hK1,hK2⟩
   ·by_cases hfit:xs.length+ys.length≤xc
    ·have hnew:=hyrun w rfl
     obtain ⟨b,base,hbρ,⟨c,hv,hlen,ty',n,hsh,hcap⟩ | ⟨h0,x0,hv⟩⟩:=hx.of_os
     ·cases hv
      obtain ⟨b',base',hb',ho⟩:=hs.used id0 _ hσ
      rw [hbρ] at hb';cases hb'
      cases ho with
      | arr hh hsz' hln hf hr =>
        rename_i cur tyc
        have hsh':n=cur.size:=by
         simp only [World.shape?,hh,Option.some.injEq,Prod.mk.injEq] at hsh;exact hsh.2.symm
        subst hsh'
        have hm1:(off+xc)*size=off*size+xc*size:=Nat.add_mul _ _ _
        have hm2:(xs.length+ys.length)*size≤xc*size:=Nat.mul_le_mul_right _ hfit
        have hm3:(xs.length+ys.length)*size=xs.length*size+ys.length*size:=Nat.add_mul _ _ _
        generalize hN:(List.range (ys.length*size)).map fy=N at hnew
        have hNl:N.length=ys.length*size:=by rw [←hN];simp
        have hone:∀ v ∈ N,v.oneCell'=true:=by
         intro v hv
         rw [←hN] at hv
         obtain ⟨k,hk,rfl⟩:=List.mem_map.1 hv
         have hk':k<ys.length*size:=by simpa using hk
         have hpos:0<size:=by
          rcases Nat.eq_zero_or_pos size with h | h
          ·subst h;simp at hk'
          ·exact h
         obtain ⟨f1,f2,f3⟩:=hfy
         have hi':k / size<ys.length:=by rw [Nat.div_lt_iff_lt_mul hpos];exact hk'
         have hj':k % size<(ys[k / size]).length:=by rw [f1 _ (List.getElem_mem hi')];exact Nat.mod_lt _ hpos
         have:=f3 (k / size) (k % size) hi' hj'
         rw [Nat.div_add_mod'] at this
         exact this.oneCell (f2 _ (List.getElem_mem hi') _ (List.getElem_mem hj'))
        have hle2:base+off*size+xs.length*size+0+N.length≤cur.size:=by omega
        have hrun:=run_storeCells_at (P:=P) b (base+off*size+xs.length*size) tyc N 0 cur w hh hle2 hone
        simp only [Nat.add_zero] at hrun hle2
        obtain ⟨G',g1,g2,g3⟩:=hs.move (id':=id) (o' := .arr size (xs++ys)) (base':=base+off*size) (w':=w.setRow b (cur.toList.take (base+off*size+xs.length*size)++N++cur.toList.drop (base+off*size+xs.length*size+N.length)).toArray)
         hσ hbρ hidρ rfl rfl rfl (Nat.le_refl _) (xp _ _) (fun c hc=>xz _ hc)
         (by simp only [World.shape?,y8 hh,hh,yf hle2])
         (fun G' hvr=>by
           have hE:ERel G w size (xs++ys) (fun k=>(cur.toList.take (base+off*size+xs.length*size)++N++cur.toList.drop (base+off*size+xs.length*size+N.length)).toArray.getD (base+off*size+k) undef):=by
            refine ERel.append (fx:=fun k=>cur.getD (base+(off*size+k)) undef) ⟨fun e he=>hln e (by rw [hxe] at he;exact List.mem_of_mem_drop (List.mem_of_mem_take he)),fun e he=>hf e (by rw [hxe] at he;exact List.mem_of_mem_drop (List.mem_of_mem_take he)),fun i j hi hj => ?_⟩ hfy (fun k hk => ?_) (fun k hk => ?_)
            ·have e:xs[i]=es[off+i]'(by omega):=by
              have h0:=congrArg (fun l:List (List AV)=>l[i]?) hxe
              simp only [List.getElem?_take_of_lt hi,List.getElem?_drop] at h0
              rw [List.getElem?_eq_getElem hi,List.getElem?_eq_getElem (by omega)] at h0
              exact Option.some.inj h0
             have h1:=hr (off+i) j (by omega) (by rw [←e];exact hj)
             simp only [e]
             rw [Nat.add_mul,Nat.add_assoc] at h1
             exact h1
            ·show (List.toArray _).getD _ _=_
             rw [xy hle2,if_neg (by omega),Nat.add_assoc]
            ·show (List.toArray _).getD _ _=_
             rw [xy hle2,if_pos (by omega)]
             have:base+off*size+(xs.length*size+k) - (base+off*size+xs.length*size)=k:=by omega
             rw [this,←hN]
             simp [List.getD,hk]
           obtain ⟨q1,q2,q3⟩:=hE
           exact .arr (y8 hh) (by rw [yf hle2,List.length_append];omega) q1 q2 fun i j hi hj=>hvr _ _ (q3 i j hi hj))
        refine ⟨_,_,G',_,_,xn (ty:=ty) hsT hsz hxT hd hfit hnew (by
         show (storeCells ((⟨b,base+off*size,none⟩:Addr).add (xs.length*size)) N.toArray.toList).run P w=_
         rw [x6];exact hrun),g1,g2,?_,hK id hidσ⟩
        have hs2:(w.setRow b (cur.toList.take (base+off*size+xs.length*size)++N++cur.toList.drop (base+off*size+xs.length*size+N.length)).toArray).shape? b=some (tyc,cur.size):=by
         simp only [World.shape?,y8 hh,yf hle2]
        have:=VRel.os (esz:=size) (off:=0) (len:=xs.length+ys.length) (c:=xc) g3 hfit ⟨tyc,_,hs2,by rw [Nat.zero_add];omega⟩
        simpa using this
     ·simp only [Value.slice.injEq] at hv
      obtain ⟨rfl,hxl0,rfl⟩:=hv
      have hy0:ys=[]:=by apply List.eq_nil_of_length_eq_zero;omega
      have hx0:xs=[]:=by apply List.eq_nil_of_length_eq_zero;omega
      subst hy0;subst hx0
      obtain ⟨b',base',hb',ho⟩:=hs.used id0 _ hσ
      rw [hbρ] at hb';cases hb'
      cases ho with
      | arr hh hsz' hln hf hr =>
        obtain ⟨G',g1,g2,g3⟩:=hs.move (id':=id) (o' := .arr size []) (base':=base) (w':=w) hσ hbρ hidρ rfl rfl rfl (Nat.le_refl _) rfl (fun c hc=>rfl) rfl
         (fun G' hvr => .arr hh (by simp;omega) (fun e he=>(nomatch he)) (fun e he=>(nomatch he)) (fun i j hi=>absurd hi (by simp)))
        exact ⟨_,_,G',_,_,xn (ty:=ty) (w':=w) (new := #[]) hsT hsz hxT hd hfit yp (by simp [storeCells]),g1,g2,.os0 g3,hK id hidσ⟩
    ·obtain ⟨v,w',G',h1,h2,h3,h4⟩:=z0s (ty:=ty) hs hsT hsz hxT hd hi hb hz hzl (by omega) hroom hfx hfy hxrun hyrun (Store.sub_del σ id0) hidρ hdel
     exact ⟨v,w',G',_,_,h1,h2,h3,h4,hK id hidσ⟩
   ·by_cases hfit:xs.length+ys.length≤xc
    ·have hnew:=hyrun w rfl
     obtain ⟨b,base,hbρ,⟨c,hv,hlen,ty',n,hsh,hcap⟩ | ⟨h0,x0,hv⟩⟩:=hx.of_os
     ·cases hv
      obtain ⟨b',base',hb',ho⟩:=hs.used id0 _ hσ
      rw [hbρ] at hb';cases hb'
      cases ho with
      | arr hh hsz' hln hf hr =>
        rename_i cur tyc
        have hsh':n=cur.size:=by
         simp only [World.shape?,hh,Option.some.injEq,Prod.mk.injEq] at hsh;exact hsh.2.symm
        subst hsh'
        have hm1:(off+xc)*size=off*size+xc*size:=Nat.add_mul _ _ _
        have hm2:(xs.length+ys.length)*size≤xc*size:=Nat.mul_le_mul_right _ hfit
        have hm3:(xs.length+ys.length)*size=xs.length*size+ys.length*size:=Nat.add_mul _ _ _
        generalize hN:(List.range (ys.length*size)).map fy=N at hnew
        have hNl:N.length=ys.length*size:=by rw [←hN];simp
        have hone:∀ v ∈ N,v.oneCell'=true:=by
         intro v hv
         rw [←hN] at hv
         obtain ⟨k,hk,rfl⟩:=List.mem_map.1 hv
         have hk':k<ys.length*size:=by simpa using hk
         have hpos:0<size:=by
          rcases Nat.eq_zero_or_pos size with h | h
          ·subst h;simp at hk'
          ·exact h
         obtain ⟨f1,f2,f3⟩:=hfy
         have hi':k / size<ys.length:=by rw [Nat.div_lt_iff_lt_mul hpos];exact hk'
         have hj':k % size<(ys[k / size]).length:=by rw [f1 _ (List.getElem_mem hi')];exact Nat.mod_lt _ hpos
         have:=f3 (k / size) (k % size) hi' hj'
         rw [Nat.div_add_mod'] at this
         exact this.oneCell (f2 _ (List.getElem_mem hi') _ (List.getElem_mem hj'))
        have hle2:base+off*size+xs.length*size+0+N.length≤cur.size:=by omega
        have hrun:=run_storeCells_at (P:=P) b (base+off*size+xs.length*size) tyc N 0 cur w hh hle2 hone
        simp only [Nat.add_zero] at hrun hle2
        have hoff:off=0:=by rw [hK0] at hσ;cases hσ;omega
        have hz0:base+off*size=base:=by rw [hoff];simp
        obtain ⟨g1,g2⟩:=hs.put (b:=b) (base:=base) (o' := .arr size (xs++ys)) (w':=w.setRow b (cur.toList.take (base+off*size+xs.length*size)++N++cur.toList.drop (base+off*size+xs.length*size+N.length)).toArray)
         hσ hbρ rfl rfl rfl (Nat.le_refl _) (xp _ _) (fun c hc=>xz _ hc)
         (by simp only [World.shape?,y8 hh,hh,yf hle2])
         (fun hvr=>by
           have hE:ERel G w size (xs++ys) (fun k=>(cur.toList.take (base+off*size+xs.length*size)++N++cur.toList.drop (base+off*size+xs.length*size+N.length)).toArray.getD (base+off*size+k) undef):=by
            refine ERel.append (fx:=fun k=>cur.getD (base+(off*size+k)) undef) ⟨fun e he=>hln e (by rw [hxe] at he;exact List.mem_of_mem_drop (List.mem_of_mem_take he)),fun e he=>hf e (by rw [hxe] at he;exact List.mem_of_mem_drop (List.mem_of_mem_take he)),fun i j hi hj => ?_⟩ hfy (fun k hk => ?_) (fun k hk => ?_)
            ·have e:xs[i]=es[off+i]'(by omega):=by
              have h0:=congrArg (fun l:List (List AV)=>l[i]?) hxe
              simp only [List.getElem?_take_of_lt hi,List.getElem?_drop] at h0
              rw [List.getElem?_eq_getElem hi,List.getElem?_eq_getElem (by omega)] at h0
              exact Option.some.inj h0
             have h1:=hr (off+i) j (by omega) (by rw [←e];exact hj)
             simp only [e]
             rw [Nat.add_mul,Nat.add_assoc] at h1
             exact h1
            ·show (List.toArray _).getD _ _=_
             rw [xy hle2,if_neg (by omega),Nat.add_assoc]
            ·show (List.toArray _).getD _ _=_
             rw [xy hle2,if_pos (by omega)]
             have:base+off*size+(xs.length*size+k) - (base+off*size+xs.length*size)=k:=by omega
             rw [this,←hN]
             simp [List.getD,hk]
           obtain ⟨q1,q2,q3⟩:=hE
           exact .arr (y8 hh) (by rw [yf hle2,List.length_append,Nat.add_mul];omega) q1 q2 fun i j hi hj=>by have:=hvr _ _ (q3 i j hi hj);rw [hz0] at this ⊢;exact this)
        refine ⟨_,_,G,_,_,xn (ty:=ty) hsT hsz hxT hd hfit hnew (by
         show (storeCells ((⟨b,base+off*size,none⟩:Addr).add (xs.length*size)) N.toArray.toList).run P w=_
         rw [x6];exact hrun),g1,g2,?_,hK1⟩
        have hs2:(w.setRow b (cur.toList.take (base+off*size+xs.length*size)++N++cur.toList.drop (base+off*size+xs.length*size+N.length)).toArray).shape? b=some (tyc,cur.size):=by
         simp only [World.shape?,y8 hh,yf hle2]
        have:=VRel.os (esz:=size) (off:=0) (len:=xs.length+ys.length) (c:=xc) hbρ hfit ⟨tyc,_,hs2,by rw [Nat.zero_add];omega⟩
        simpa [hoff] using this
     ·simp only [Value.slice.injEq] at hv
      obtain ⟨rfl,hxl0,rfl⟩:=hv
      have hy0:ys=[]:=by apply List.eq_nil_of_length_eq_zero;omega
      have hx0:xs=[]:=by apply List.eq_nil_of_length_eq_zero;omega
      subst hy0;subst hx0
      obtain ⟨b',base',hb',ho⟩:=hs.used id0 _ hσ
      rw [hbρ] at hb';cases hb'
      cases ho with
      | arr hh hsz' hln hf hr =>
        have es0:σ.set id0 (.arr size ([]++[]))=σ:=Store.set_id hK0
        exact ⟨_,_,G,_,_,xn (ty:=ty) (w':=w) (new := #[]) hsT hsz hxT hd hfit yp (by simp [storeCells]),by rw [es0];exact Ext.refl _ _ _,by rw [es0];exact hs,.os0 hbρ,hK1⟩
    ·obtain ⟨v,w',G',h1,h2,h3,h4⟩:=z0s (ty:=ty) hs hsT hsz hxT hd hi hb hz hzl (by omega) hroom hfx hfy hxrun hyrun (Store.sub_refl σ) hidρ hidσ
     exact ⟨v,w',G',_,_,h1,h2,h3,h4,hK2 id hidσ⟩
  ·exact hK.elim
 ·exact hK.elim
def appzwp (esz bytes:Nat) (z:List AV) (x n:AV) (σ:Store) (K:AV→Store→Prop):Prop :=
 match x,n with
 | .nils,.int .i64 n=>0≤n∧n*bytes≤140737488355328∧(n=0→K .nils σ) ∧
   (n≠0→∀ id,σ id=none→K (.os id esz 0 n.toNat) (σ.set id (.arr esz (List.replicate n.toNat z))))
 | _,_=>False
theorem zam (hs:Sim G σ w) {sT xT e:TypeId} {size:Nat} {k:IntKind} {i:TypeInfo} {z:List AV} {ty:TypeId} {x y:AV} {vx vy:Value} {K:AV→Store→Prop}
 (hsT:P.underlying sT=some (.slice e)) (hsz:tsz P e=some size) (hxT:P.underlying xT=some (.int k)) (hi:P.info? e=some i) (hb:1≤i.bytes)
 (hz:tzero P e=some z) (hzl:z.length=size) (hx:VRel G w x vx) (hy:VRel G w y vy) (hK:appzwp size i.bytes z x y σ K) :
 ∃ v w' G' σ' av,(Builtin.append_ #[sT,xT] ty #[vx,vy]).run P w = .ok v w'∧Ext G σ w G' σ' w'∧Sim G' σ' w'∧VRel G' w' av v∧K av σ':=by
 unfold appzwp at hK
 split at hK
 ·rename_i n
  obtain ⟨h0,hroom,hK1,hK2⟩:=hK
  obtain rfl:=hx.of_nils
  obtain rfl:=hy.of_int
  have hle:n≤140737488355328:=by
   have h1:(1:Int)≤(i.bytes:Int):=by omega
   have:=Int.mul_le_mul_of_nonneg_left h1 h0
   rw [Int.mul_one] at this
   omega
  have hw:IntKind.i64.wrap n=n:=IntWalk.i64_in n (by omega)
  obtain ⟨zv,hz1,hz2⟩:=xj (G:=G) (w:=w) hz
  have hz1':∀ w':World,(zeroValue e).run P w' = .ok zv w':=fun w'=>by
   obtain ⟨zv',h1,h2⟩:=z1i (P:=P) (w:=w') hz
   unfold zeroValue at hz1 h1
   cases hinf:P.info? e with
   | none=>rw [hinf] at hi;cases hi
   | some ii =>
     simp only [Sem.run_bind,zy hinf,Result.andThen_ok] at hz1 h1
     cases hzz:ii.zero with
     | none=>simp [hzz] at hz1
     | some q =>
       simp [hzz] at hz1 h1
       unfold zeroValue
       simp [zy hinf,hzz,hz1]
  have hzsz:zv.cells.size=size:=by rw [←hz2.1,hzl]
  obtain ⟨z1,z2,z3⟩:=hz2
  have hbig:¬ (n*(i.bytes:Int)>2 ^ 48):=by
   have:(2:Int) ^ 48=281474976710656:=by decide
   omega
  by_cases hn:n=0
  ·subst hn
   refine ⟨.slice none 0 0,w,G,σ,.nils,?_,Ext.refl _ _ _,hs,.nils,hK1 rfl⟩
   unfold Builtin.append_
   simp only [List.getElem?_toArray,List.getElem?_cons_zero,List.getElem?_cons_succ,Sem.run_bind,zj hsT,zj hxT,Result.andThen_ok,y9 hsz,Sem.run_pure]
   simp [asInt,yh,zy hi,hw,Sem.run_bind]
  ·obtain ⟨id,hidρ,hidσ⟩:=hs.fresh
   have hpos:0<n.toNat:=by omega
   have hcap:Builtin.nextslicecap (0+n.toNat) 0*i.bytes≤281474976710656:=by
    have h1:Builtin.nextslicecap (0+n.toNat) 0=n.toNat:=by
     unfold Builtin.nextslicecap
     rw [if_pos (by omega)];omega
    rw [h1]
    have:((n.toNat*i.bytes:Nat):Int)≤140737488355328:=by
     rw [Int.natCast_mul,Int.toNat_of_nonneg h0];exact hroom
    omega
   have hrun:∃ newCap,n.toNat≤newCap∧(Builtin.append_ #[sT,xT] ty #[.slice none 0 0,.int .i64 n]).run P w =
    .ok (.slice (some ⟨w.heap.size,0,none⟩) n.toNat newCap) (w.drew.alloc (.cells (Builtin.zeroCells zv.cells n.toNat++Builtin.zeroCells zv.cells (newCap - n.toNat)) e (0,0))):=by
    refine ⟨(Question.appendCap (0+n.toNat) 0 e).cut (w.tape w.drawn (.appendCap (0+n.toNat) 0 e)),by simp only [Question.cut];omega,?_⟩
    generalize hq:(Question.appendCap (0+n.toNat) 0 e).cut (w.tape w.drawn (.appendCap (0+n.toNat) 0 e))=newCap
    unfold Builtin.append_
    simp only [List.getElem?_toArray,List.getElem?_cons_zero,List.getElem?_cons_succ,Sem.run_bind,zj hsT,zj hxT,Result.andThen_ok,y9 hsz,Sem.run_pure,
     asInt,yh,hw,if_true]
    rw [if_neg (by omega)]
    simp only [Sem.run_bind,zy hi,Result.andThen_ok,Sem.run_pure]
    rw [if_neg hbig]
    simp only [Sem.run_bind,zy hi,Result.andThen_ok,Sem.run_pure]
    rw [if_neg (by omega)]
    simp only [Sem.run_bind,zy hi,Result.andThen_ok]
    rw [if_neg (by rw [z1k];omega)]
    simp only [Sem.run_bind,zy hi,Result.andThen_ok]
    rw [if_neg (by omega)]
    simp only [Sem.run_bind,run_choose,Question.forced,Bool.false_eq_true,if_false,Result.andThen_ok,hq,zy hi,run_askRoom]
    have h3:=hz1' w.drew
    by_cases h00:n.toNat*size=0
    ·have hs0:size=0:=by
      rcases Nat.mul_eq_zero.1 h00 with h | h <;> omega
     show ((Builtin.firstCells size 0 (.slice none 0 0)).run P w.drew).andThen _=_
     simp only [Builtin.firstCells,Sem.run_pure,Result.andThen_ok,Bool.not_true,Bool.false_eq_true,if_false,h00,if_true,Sem.run_bind,h3,newRow,run_newObj]
     have:Builtin.zeroCells zv.cells n.toNat = #[]:=by
      unfold Builtin.zeroCells;rw [hzsz,hs0];simp
     rw [this]
     simp
     rfl
    ·show ((Builtin.firstCells size 0 (.slice none 0 0)).run P w.drew).andThen _=_
     simp only [Builtin.firstCells,Sem.run_pure,Result.andThen_ok,Bool.not_true,Bool.false_eq_true,if_false,if_neg h00,Sem.run_bind,h3,newRow,run_newObj]
     simp
     rfl
   obtain ⟨newCap,hcap',hrun⟩:=hrun
   have hs1:Sim G σ w.drew:=hs.heap (w':=w.drew) rfl
   have hC1:(Builtin.zeroCells zv.cells n.toNat).size=n.toNat*size:=by simp [Builtin.zeroCells,hzsz]
   have hC2:(Builtin.zeroCells zv.cells (newCap - n.toNat)).size=(newCap - n.toNat)*size:=by simp [Builtin.zeroCells,hzsz]
   generalize hcells:Builtin.zeroCells zv.cells n.toNat++Builtin.zeroCells zv.cells (newCap - n.toNat)=cells at hrun
   have hcs:cells.size=newCap*size:=by
    rw [←hcells,Array.size_append,hC1,hC2,←Nat.add_mul];congr 1;omega
   obtain ⟨G',g1,g2,g3⟩:=z0c (es:=List.replicate n.toNat z) (esz:=size) (cs:=cells) hs1 hidρ hidσ e
    (fun x hx=>by rw [List.eq_of_mem_replicate hx];exact hzl)
    (fun x hx c hc=>by rw [List.eq_of_mem_replicate hx] at hc;exact z2 c hc)
    (by rw [hcs,List.length_replicate];exact Nat.mul_le_mul_right _ hcap')
    (fun a j ha hj=>by
      simp only [List.getElem_replicate] at hj ⊢
      simp only [List.length_replicate] at ha
      obtain ⟨x,hx,hr⟩:=z3 j _ (List.getElem?_eq_getElem hj)
      have hjs:j<size:=by omega
      have hlt:a*size+j<n.toNat*size:=by
       have:=Nat.mul_le_mul_right size (Nat.succ_le_of_lt ha)
       rw [Nat.succ_mul] at this;omega
      have hmod:(a*size+j) % size=j:=by rw [Nat.mul_comm,Nat.mul_add_mod];exact Nat.mod_eq_of_lt hjs
      have:cells.getD (a*size+j) undef=x:=by
       rw [←hcells,yy (by rw [hC1];exact hlt),Array.getD_eq_getD_getElem?]
       simp only [Builtin.zeroCells,Array.getElem?_map,hzsz,Array.getElem?_range,if_pos hlt,Option.map_some,hmod,Option.getD_some]
       rw [Array.getElem!_eq_getD,Array.getD_eq_getD_getElem?,hx];rfl
      rw [this];exact VRel.heap (w':=w.drew) (w:=w) rfl hr)
   refine ⟨_,_,G',_,_,hrun,(Ext.drew G σ w).trans g1,g2,?_,hK2 hn id hidσ⟩
   have:=VRel.os (w:=w.drew.alloc (.cells cells e (0,0))) (esz:=size) (off:=0) (len:=n.toNat) (c:=newCap) g3 hcap' ⟨e,cells.size,wj _ _,by rw [hcs];simp⟩
   simpa using this
 ·exact hK.elim
def clrwp (esz:Nat) (z:List AV) (x:AV) (σ:Store) (K:Store→Prop):Prop:=match x with
 | .nils=>K σ
 | .os id esz' off len=>match σ id with
   | some (.arr esz'' es)=>esz'=esz∧esz''=esz∧off+len≤es.length∧K (σ.set id (.arr esz (es.take off++(List.replicate len z++es.drop (off+len)))))
   | _=>False
 | _=>False
theorem zdb (hs:Sim G σ w) {t e ty:TypeId} {size:Nat} {z:List AV} {x:AV} {vx:Value} {K:Store→Prop}
 (hT:P.underlying t=some (.slice e)) (hsz:tsz P e=some size) (hz:tzero P e=some z) (hzl:z.length=size) (hx:VRel G w x vx) (hK:clrwp size z x σ K) :
 ∃ w' σ',(Builtin.clear_ #[t] ty #[vx]).run P w = .ok (.tuple #[]) w'∧Ext G σ w G σ' w'∧Sim G σ' w'∧K σ':=by
 unfold clrwp at hK
 split at hK
 ·obtain rfl:=hx.of_nils
  refine ⟨w,σ,?_,Ext.refl _ _ _,hs,hK⟩
  unfold Builtin.clear_
  simp [Sem.run_bind,zj hT]
 ·rename_i id esz' off len
  split at hK
  ·rename_i esz'' es hσ
   obtain ⟨rfl,rfl,hle,hK⟩:=hK
   rcases Nat.eq_zero_or_pos len with h0 | hpos
   ·subst h0
    have e1:es.take off++(List.replicate 0 z++es.drop (off+0))=es:=by simp
    rw [e1,Store.set_id hσ] at hK
    have:∃ a c,vx = .slice a 0 c:=by
     obtain ⟨b,base,hb,⟨c,hv,_⟩ | ⟨_,y,hv⟩⟩:=hx.of_os
     ·exact ⟨_,_,hv⟩
     ·exact ⟨_,_,hv⟩
    obtain ⟨a,c,rfl⟩:=this
    refine ⟨w,σ,?_,Ext.refl _ _ _,hs,hK⟩
    unfold Builtin.clear_
    cases a <;> simp [Sem.run_bind,zj hT]
   ·obtain ⟨b,base,hbρ,⟨c,rfl,hlen,_⟩ | ⟨hl0,_⟩⟩:=hx.of_os
    ·obtain ⟨b',base',hb',ho⟩:=hs.used id _ hσ
     rw [hbρ] at hb';cases hb'
     obtain ⟨zv,hz1,z1,z2,z3⟩:=xj (G:=G) (w:=w) hz
     cases ho with
     | arr hh hsz' hln hf hr =>
       rename_i cur tyc
       have hzsz:zv.cells.size=esz'':=by omega
       generalize hN:(Builtin.zeroCells zv.cells len).toList=N
       have hNl:N.length=len*esz'':=by rw [←hN];simp [Builtin.zeroCells,hzsz]
       have hm:(off+len)*esz''=off*esz''+len*esz'':=Nat.add_mul _ _ _
       have hm2:(off+len)*esz''≤es.length*esz'':=Nat.mul_le_mul_right _ hle
       have hget:∀ k,k<len*esz''→∃ q,z[k % esz'']? = some q∧VRel G w q (N.getD k undef)∧q.flat=true:=fun k hk=>by
        have hp:0<esz'':=by
         rcases Nat.eq_zero_or_pos esz'' with h | h
         ·rw [h] at hk;simp at hk
         ·exact h
        have hlt:k % esz''<z.length:=by rw [hzl];exact Nat.mod_lt _ hp
        obtain ⟨v,hv,hvr⟩:=z3 (k % esz'') _ (List.getElem?_eq_getElem hlt)
        refine ⟨_,List.getElem?_eq_getElem hlt,?_,z2 _ (List.getElem_mem hlt)⟩
        have:N.getD k undef=v:=by
         rw [←hN]
         simp only [Builtin.zeroCells,Array.toList_map,Array.toList_range,hzsz,List.getD,List.getElem?_map,List.getElem?_range hk,Option.map_some,Option.getD_some]
         rw [Array.getElem!_eq_getD,Array.getD_eq_getD_getElem?,hv];rfl
        rw [this];exact hvr
       have hone:∀ v ∈ N,v.oneCell'=true:=by
        intro v hv
        obtain ⟨k,hk,rfl⟩:=List.getElem_of_mem hv
        obtain ⟨q,_,hq2,hq3⟩:=hget k (by omega)
        rw [List.getD_eq_getElem?_getD,List.getElem?_eq_getElem hk] at hq2
        exact hq2.oneCell hq3
       have hle2:base+off*esz''+0+N.length≤cur.size:=by omega
       have hrun:=run_storeCells_at (P:=P) b (base+off*esz'') tyc N 0 cur w hh hle2 hone
       simp only [Nat.add_zero] at hrun hle2
       generalize hw':w.setRow b (cur.toList.take (base+off*esz'')++N++cur.toList.drop (base+off*esz''+N.length)).toArray=w' at hrun
       have hput:=hs.put (o' := .arr esz'' (es.take off++(List.replicate len z++es.drop (off+len)))) (w':=w') hσ hbρ (by rw [←hw'];rfl) (by rw [←hw'];rfl) (by rw [←hw'];rfl) (by rw [←hw'];exact Nat.le_refl _)
        (by rw [←hw'];exact xp _ _) (fun c hc=>by rw [←hw'];exact xz _ hc) (by rw [←hw'];simp only [World.shape?,y8 hh,hh,yf hle2])
        (fun hvr=>by
          have hlen':(es.take off++(List.replicate len z++es.drop (off+len))).length=es.length:=by simp;omega
          have hmem:∀ x ∈ (es.take off++(List.replicate len z++es.drop (off+len))),x ∈ es∨x=z:=fun x hx=>by
           rcases List.mem_append.1 hx with h | h
           ·exact .inl (List.mem_of_mem_take h)
           ·rcases List.mem_append.1 h with h | h
            ·exact .inr (List.eq_of_mem_replicate h)
            ·exact .inl (List.mem_of_mem_drop h)
          refine .arr (cs:=(cur.toList.take (base+off*esz'')++N++cur.toList.drop (base+off*esz''+N.length)).toArray) (by rw [←hw'];exact y8 hh) (by rw [yf hle2,hlen'];exact hsz')
           (fun x hx=>by rcases hmem x hx with h | rfl
                         ·exact hln x h
                         ·exact hzl)
           (fun x hx=>by rcases hmem x hx with h | rfl
                         ·exact hf x h
                         ·exact fun c hc=>z2 c hc) (fun i j hi hj => ?_)
          apply hvr
          have hi0:i<es.length:=by rw [←hlen'];exact hi
          have hjs:j<esz'':=by
           have:((es.take off++(List.replicate len z++es.drop (off+len)))[i]).length=esz'':=by
            rcases hmem _ (List.getElem_mem hi) with h | h
            ·exact hln _ h
            ·rw [h];exact hzl
           omega
          have hij:(i+1)*esz''≤es.length*esz'':=Nat.mul_le_mul_right _ hi0
          rw [Nat.succ_mul] at hij
          rw [xy hle2]
          by_cases hlo:i<off
          ·have h1:(i+1)*esz''≤off*esz'':=Nat.mul_le_mul_right _ hlo
           rw [Nat.succ_mul] at h1
           rw [if_neg (by omega)]
           have e:(es.take off++(List.replicate len z++es.drop (off+len)))[i]=es[i]:=by
            rw [List.getElem_append_left (by simp;omega)];simp
           simp only [e] at hj ⊢
           exact hr i j hi0 hj
          ·by_cases hhi:i<off+len
           ·have h1:(i - off+1)*esz''≤len*esz'':=Nat.mul_le_mul_right _ (by omega)
            rw [Nat.succ_mul] at h1
            have h2:i*esz''=off*esz''+(i - off)*esz'':=by rw [←Nat.add_mul];congr 1;omega
            rw [if_pos (by omega)]
            have e:(es.take off++(List.replicate len z++es.drop (off+len)))[i]=z:=by
             rw [List.getElem_append_right (by simp;omega),List.getElem_append_left (by simp;omega)];simp
            simp only [e] at hj ⊢
            obtain ⟨q,hq1,hq2,_⟩:=hget ((i - off)*esz''+j) (by omega)
            have hmod:((i - off)*esz''+j) % esz''=j:=by rw [Nat.mul_comm,Nat.mul_add_mod];exact Nat.mod_eq_of_lt hjs
            rw [hmod,List.getElem?_eq_getElem hj] at hq1
            cases hq1
            have:base+(i*esz''+j) - (base+off*esz'')=(i - off)*esz''+j:=by omega
            rw [this];exact hq2
           ·have h1:(off+len)*esz''≤i*esz'':=Nat.mul_le_mul_right _ (by omega)
            rw [if_neg (by omega)]
            have e:(es.take off++(List.replicate len z++es.drop (off+len)))[i]=es[i]:=by
             rw [List.getElem_append_right (by simp;omega),List.getElem_append_right (by simp;omega),List.getElem_drop]
             congr 1;simp;omega
            simp only [e] at hj ⊢
            exact hr i j hi0 hj)
       refine ⟨w',_,?_,hput.1,hput.2,hK⟩
       unfold Builtin.clear_
       obtain ⟨n,rfl⟩:∃ n,len=n+1:=⟨len - 1,by omega⟩
       simp [Sem.run_bind,zj hT,hz1,hN,hrun]
    ·omega
  ·exact hK.elim
 ·exact hK.elim
end
end Go.Am
namespace Go.Am
def mupdwp (mk:MKey) (m k v:AV) (σ:Store) (K:Store→Prop):Prop :=
 keyFits mk k=true∧match m with
 | .mp id=>match σ id with
   | some (.map es)=>match mfind k es 0 with
     | some (some (i,_))=>K (σ.set id (.map (es.set i (k,v))))
     | some none=>K (σ.set id (.map (es++[(k,v)])))
     | none=>False
   | _=>False
 | _=>False
def mdelwp (mk:MKey) (m k:AV) (σ:Store) (K:Store→Prop):Prop :=
 keyFits mk k=true∧match m with
 | .mp id=>match σ id with
   | some (.map es)=>match mfind k es 0 with
     | some (some (i,_))=>K (σ.set id (.map (es.eraseIdx i)))
     | some none=>K σ
     | none=>False
   | _=>False
 | .nilmap=>K σ
 | _=>False
theorem qy {k:AV}:∀ (es:List (AV×AV)) (s i:Nat) (v:AV),mfind k es s=some (some (i,v))→s≤i∧∃ k',es[i - s]? = some (k',v)∧kEq k k'=some true
 | [],s,i,v,h=>by cases h
 | (k',v')::r,s,i,v,h=>by
   simp only [mfind] at h
   split at h
   ·rename_i hk
    cases h
    exact ⟨Nat.le_refl _,k',by simp,hk⟩
   ·obtain ⟨h1,k2,h2,h3⟩:=qy r (s+1) i v h
    refine ⟨by omega,k2,?_,h3⟩
    rw [show i - s=(i - (s+1))+1 by omega];simpa using h2
   ·cases h
section
variable {P:Program} {w:World} {G:Gh} {σ:Store}
theorem z9d {a b:AV} {x y:Value} (ha:VRel G w a x) (hb:VRel G w b y) (h:kEq a b=some true):x=y:=by
 unfold kEq at h
 split at h
 ·rename_i j m k n h1 h2
  rw [wz h1] at ha;rw [wz h2] at hb
  rw [ha.of_int,hb.of_int]
  split at h
  ·rename_i hj;subst hj;simp at h;rw [h]
  ·cases h
 ·split at h
  ·rename_i h1 h2
   rw [v8 h1] at ha;rw [v8 h2] at hb
   obtain ⟨x1,y1,rfl,r1,r2⟩:=qn ha rfl
   obtain ⟨x2,y2,rfl,r3,r4⟩:=qn hb rfl
   rw [r1.of_int,r2.of_int,r3.of_int,r4.of_int]
   split at h
   ·rename_i hj;obtain ⟨rfl,rfl⟩:=hj;simp at h;rw [h.1,h.2]
   ·cases h
  ·cases h
theorem z25 {a:AV} {x:Value} (ha:VRel G w a x) {mk:MKey} (hf:keyFits mk a=true) (d:Nat):Instr.sameBits (d+1+1) x x=true:=by
 cases mk with
 | int k=>obtain ⟨n,rfl⟩:=uh hf;rw [ha.of_int];simp [Instr.sameBits]
 | two k1 k2 =>
   obtain ⟨m,n,rfl⟩:=ui hf
   obtain ⟨u,v,rfl,r1,r2⟩:=qn ha rfl
   rw [r1.of_int,r2.of_int]
   simp [Instr.sameBits]
theorem z0x {a b:AV} {x y:Value} (ha:VRel G w a x) (hb:VRel G w b y) {mk:MKey} (hf:keyFits mk a=true) (h:kEq a b=some true):(Instr.keyThatStays y x).run P w = .ok x w:=by
 have e:=z9d ha hb h
 subst e
 unfold Instr.keyThatStays
 have:Instr.sameBits 10000 x x=true:=z25 ha hf 9998
 rw [if_pos this];rfl
theorem vg {b:Nat} {ents:Array MapEntry} {clock:Nat} (h:w.heap[b]? = some (.map ents clock)) (o:Go.Obj):(setObj b o).run P w = .ok () { w with heap:=w.heap.setIfInBounds b o }:=by
 simp [setObj,Sem.run,h]
theorem z20 (hs:Sim G σ w) {id:Nat} {es es':List (AV×AV)} {b base:Nat} {ents ents':Array MapEntry} {clock clock':Nat} (hσ:σ id=some (.map es)) (hρ:G.ρ id=some (b,base)) (hh:w.heap[b]? = some (.map ents clock))
 (hl:es'.length=ents'.size) (hv:∀ k (h:k<es'.length) (h':k<ents'.size),VRel G w es'[k].1 ents'[k].key∧VRel G w es'[k].2 ents'[k].val)
 (hborn:∀ k (h:k<ents'.size),ents'[k].born<clock') (hinj:∀ i j (hi:i<ents'.size) (hj:j<ents'.size),ents'[i].born=ents'[j].born→i=j) :
 Ext G σ w G (σ.set id (.map es')) { w with heap:=w.heap.setIfInBounds b (.map ents' clock') }∧Sim G (σ.set id (.map es')) { w with heap:=w.heap.setIfInBounds b (.map ents' clock') }:=by
 have hlt:b<w.heap.size:=(Array.getElem?_eq_some_iff.1 hh).1
 obtain ⟨b',base',hb',ho⟩:=hs.used id _ hσ
 rw [hρ] at hb';cases hb'
 have h0:base=0:=by cases ho with | map _ h0=>exact h0
 have e:({ w with heap:=w.heap.setIfInBounds b (.map ents' clock') }:World).heap[b]? = some (.map ents' clock'):=by simp [hlt]
 refine hs.put hσ hρ rfl rfl rfl (Nat.le_refl _) (by simp) (fun c hc=>by simp [Array.getElem?_setIfInBounds_ne (Ne.symm hc)]) (by simp only [World.shape?,e,hh]) (fun hvr => ?_)
 exact .map (by simp [hlt]) h0 hl (fun k h h'=>⟨hvr _ _ (hv k h h').1,hvr _ _ (hv k h h').2⟩) hborn hinj
theorem zbh (hs:Sim G σ w) {t kt et:TypeId} {mk:MKey} {m k v:AV} {vm vk vv:Value} {K:Store→Prop} (ht:P.underlying t=some (.map kt et)) (hk:keyKind P kt=some mk)
 (hm:VRel G w m vm) (hkv:VRel G w k vk) (hvv:VRel G w v vv) (h:mupdwp mk m k v σ K) :
 ∃ w' σ',(Instr.mapUpdate t vm vk vv).run P w = .ok () w'∧Ext G σ w G σ' w'∧Sim G σ' w'∧K σ':=by
 obtain ⟨hf,h⟩:=h
 split at h
 case h_2=>exact h.elim
 rename_i id
 split at h
 case h_2=>exact h.elim
 rename_i es hσ
 obtain ⟨b,base,hb,rfl⟩:=hm.of_mp
 obtain ⟨b',base',hb',ho⟩:=hs.used id _ hσ
 rw [hb] at hb';cases hb'
 cases ho with
 | map hh h0 hl hr hborn hinj =>
   rename_i ents clock
   have hrel:Rels (fun e x=>VRel G w e.1 x.key∧VRel G w e.2 x.val) es ents.toList:=Rels.of_get (by simpa using hl) fun k hk hk'=>by
    have:=hr k hk (by simpa using hk')
    simpa using this
   have hck:=wa (P:=P) hk hf hkv false 9998
   have e10:(9998+1+1:Nat)=10000:=rfl
   rw [e10] at hck
   have hlt:b<w.heap.size:=(Array.getElem?_eq_some_iff.1 hh).1
   unfold Instr.mapUpdate
   simp only [Sem.run_bind,zj ht,Result.andThen_ok,vd hh,hck]
   split at h
   ·rename_i i u hfd
    obtain ⟨r',h1,h2⟩:=xo (P:=P) hk hf hkv hrel hfd
    obtain ⟨j,a,y,hj,rfl,hy⟩:=h2.resolve_left (fun e=>by cases e.1)
    cases hj
    obtain ⟨_,k',hget,heq⟩:=qy es 0 i u hfd
    simp only [Nat.sub_zero] at hget
    obtain ⟨hi,hge⟩:=List.getElem?_eq_some_iff.1 hget
    have hi':i<ents.size:=by omega
    have hkk:VRel G w k' ents[i].key:=by have:=(hr i hi hi').1;rw [hge] at this;exact this
    have hst:=z0x (P:=P) hkv hkk hf heq
    have hold:((ents[i]?).map (·.key)).getD vk=ents[i].key:=by simp [hi']
    obtain ⟨g1,g2⟩:=z20 hs (es':=es.set i (k,v)) (ents':=ents.modify i fun e=>{ e with key:=vk,val:=vv }) (clock':=clock) hσ hb hh (by simpa using hl)
     (fun q hq hq'=>by
       rw [Array.getElem_modify]
       by_cases hqi:i=q
       ·subst hqi;simp;exact ⟨hkv,hvv⟩
       ·rw [if_neg hqi,List.getElem_set_ne hqi]
        have hq2:q<es.length:=by simpa using hq
        exact hr q hq2 (by omega))
     (fun q hq=>by
       have hq2:q<ents.size:=by simpa using hq
       rw [Array.getElem_modify];split <;> exact hborn q hq2)
     (fun p q hp hq he=>by
       have hp2:p<ents.size:=by simpa using hp
       have hq2:q<ents.size:=by simpa using hq
       refine hinj p q hp2 hq2 ?_
       rw [Array.getElem_modify,Array.getElem_modify] at he
       split at he <;> split at he <;> exact he)
    refine ⟨_,_,?_,g1,g2,h⟩
    simp only [h1,Result.andThen_ok,Sem.run_bind,hold,hst,vg hh]
   ·rename_i hfd
    obtain ⟨r',h1,h2⟩:=xo (P:=P) hk hf hkv hrel hfd
    have hr':r'=none:=by rcases h2 with h2 | ⟨_,_,_,h2,_⟩;exact h2.2;cases h2
    subst hr'
    obtain ⟨g1,g2⟩:=z20 hs (es':=es++[(k,v)]) (ents':=ents.push { key:=vk,val:=vv,born:=clock }) (clock':=clock+1) hσ hb hh (by simp [hl])
     (fun q hq hq'=>by
       rw [Array.getElem_push]
       by_cases hqs:q<ents.size
       ·have e:(es++[(k,v)])[q]=es[q]:=List.getElem_append_left (by omega)
        simp only [dif_pos hqs,e]
        exact hr q (by omega) hqs
       ·have hqe:q=es.length:=by simp at hq;omega
        subst hqe
        simp [hqs];exact ⟨hkv,hvv⟩)
     (fun q hq=>by
       rw [Array.getElem_push]
       by_cases hqs:q<ents.size
       ·simp only [dif_pos hqs];have:=hborn q hqs;omega
       ·simp only [dif_neg hqs];omega)
     (fun p q hp hq he=>by
       rw [Array.getElem_push,Array.getElem_push] at he
       simp only [Array.size_push] at hp hq
       by_cases hps:p<ents.size <;> by_cases hqs:q<ents.size
       ·simp only [dif_pos hps,dif_pos hqs] at he;exact hinj p q hps hqs he
       ·simp only [dif_pos hps,dif_neg hqs] at he;have:=hborn p hps;omega
       ·simp only [dif_neg hps,dif_pos hqs] at he;have:=hborn q hqs;omega
       ·omega)
    refine ⟨_,_,?_,g1,g2,h⟩
    simp only [h1,Result.andThen_ok,vg hh]
   ·exact h.elim
theorem zbf (hs:Sim G σ w) {t kt et:TypeId} {mk:MKey} {m k:AV} {vm vk:Value} {K:Store→Prop} {ty:TypeId} {kT:TypeId} (ht:P.underlying t=some (.map kt et)) (hk:keyKind P kt=some mk)
 (hm:VRel G w m vm) (hkv:VRel G w k vk) (h:mdelwp mk m k σ K) :
 ∃ w' σ',(Builtin.delete_ #[t,kT] ty #[vm,vk]).run P w = .ok (.tuple #[]) w'∧Ext G σ w G σ' w'∧Sim G σ' w'∧K σ':=by
 obtain ⟨hf,h⟩:=h
 have e10:(9998+1+1:Nat)=10000:=rfl
 unfold Builtin.delete_
 simp only [List.getElem?_toArray,List.getElem?_cons_zero,List.getElem?_cons_succ,Sem.run_bind,zj ht,Result.andThen_ok]
 split at h
 ·rename_i id
  split at h
  case h_2=>exact h.elim
  rename_i es hσ
  obtain ⟨b,base,hb,rfl⟩:=hm.of_mp
  obtain ⟨b',base',hb',ho⟩:=hs.used id _ hσ
  rw [hb] at hb';cases hb'
  cases ho with
  | map hh h0 hl hr hborn hinj =>
    rename_i ents clock
    have hrel:Rels (fun e x=>VRel G w e.1 x.key∧VRel G w e.2 x.val) es ents.toList:=Rels.of_get (by simpa using hl) fun k hk hk'=>by
     have:=hr k hk (by simpa using hk')
     simpa using this
    have hck:=wa (P:=P) hk hf hkv ents.isEmpty 9998
    rw [e10] at hck
    have hlt:b<w.heap.size:=(Array.getElem?_eq_some_iff.1 hh).1
    simp only [Sem.run_bind,Result.andThen_ok,vd hh,hck]
    split at h
    ·rename_i i u hfd
     obtain ⟨r',h1,h2⟩:=xo (P:=P) hk hf hkv hrel hfd
     obtain ⟨j,a,y,hj,rfl,hy⟩:=h2.resolve_left (fun e=>by cases e.1)
     cases hj
     obtain ⟨_,k',hget,heq⟩:=qy es 0 i u hfd
     simp only [Nat.sub_zero] at hget
     obtain ⟨hi,hge⟩:=List.getElem?_eq_some_iff.1 hget
     have hi':i<ents.size:=by omega
     have hel:∀ q (hq:q<(ents.eraseIdxIfInBounds i).size),∃ (p:Nat) (hp:p<ents.size),(ents.eraseIdxIfInBounds i)[q]=ents[p]∧p=(if q<i then q else q+1):=fun q hq=>by
      have hsz:(ents.eraseIdxIfInBounds i).size=ents.size - 1:=by simp [Array.eraseIdxIfInBounds,hi']
      by_cases hqi:q<i
      ·exact ⟨q,by omega,by simp [Array.eraseIdxIfInBounds,hi',Array.getElem_eraseIdx,hqi],by rw [if_pos hqi]⟩
      ·exact ⟨q+1,by omega,by simp [Array.eraseIdxIfInBounds,hi',Array.getElem_eraseIdx,hqi],by rw [if_neg hqi]⟩
     obtain ⟨g1,g2⟩:=z20 hs (es':=es.eraseIdx i) (ents':=ents.eraseIdxIfInBounds i) (clock':=clock) hσ hb hh (by simp [Array.eraseIdxIfInBounds,hi',List.length_eraseIdx,hi,hl])
      (fun q hq hq'=>by
        obtain ⟨p,hp,he,hpq⟩:=hel q hq'
        rw [he]
        have hp2:p<es.length:=by omega
        have e2:(es.eraseIdx i)[q]=es[p]:=by
         rw [List.getElem_eraseIdx]
         split
         ·rename_i hqi;rw [if_pos hqi] at hpq;subst hpq;rfl
         ·rename_i hqi;rw [if_neg hqi] at hpq;subst hpq;rfl
        rw [e2]
        exact hr p hp2 hp)
      (fun q hq=>by obtain ⟨p,hp,he,_⟩:=hel q hq;rw [he];exact hborn p hp)
      (fun p q hp hq he=>by
        obtain ⟨p',hp',e1,f1⟩:=hel p hp
        obtain ⟨q',hq',e2,f2⟩:=hel q hq
        rw [e1,e2] at he
        have:=hinj p' q' hp' hq' he
        subst this
        rw [f1] at f2
        split at f2 <;> split at f2 <;> omega)
     refine ⟨_,_,?_,g1,g2,h⟩
     simp only [h1,Result.andThen_ok,Sem.run_bind,vg hh,Sem.run_pure]
    ·rename_i hfd
     obtain ⟨r',h1,h2⟩:=xo (P:=P) hk hf hkv hrel hfd
     have hr':r'=none:=by rcases h2 with h2 | ⟨_,_,_,h2,_⟩;exact h2.2;cases h2
     subst hr'
     have hself:({ w with heap:=w.heap.setIfInBounds b (.map ents clock) }:World)=w:=by
      have:w.heap.setIfInBounds b (.map ents clock)=w.heap:=by
       apply Array.ext
       ·simp
       ·intro q h1 h2
        by_cases hq:b=q
        ·subst hq
         simp
         have:=(Array.getElem?_eq_some_iff.1 hh).2
         exact this.symm
        ·rw [Array.getElem_setIfInBounds_ne _ hq]
      rw [this]
     refine ⟨w,σ,?_,Ext.refl _ _ _,hs,h⟩
     simp only [h1,Result.andThen_ok,Sem.run_bind,vg hh,hself,Sem.run_pure]
    ·exact h.elim
 ·have hck:=wa (P:=P) hk hf hkv true 9998
  rw [e10] at hck
  have:vm = .map none:=by cases hm;rfl
  subst this
  refine ⟨w,σ,?_,Ext.refl _ _ _,hs,h⟩
  simp only [Sem.run_bind,hck,Result.andThen_ok,Sem.run_pure]
 ·exact h.elim
end
end Go.Am
namespace Go.Am
def Ent (P:Program) (f:Nat):Prop:=∃ fn,P.funcs[f]? = some fn∧(fn.name == "runtime.NumGoroutine")=false∧fn.body.isSome=true
def ACalls (P:Program) (f:Nat) (args:List AV) (σ:Store) (Q:AV→Store→Prop):Prop :=
 Ent P f∧∀ G w vs,Sim G σ w→Rels (VRel G w) args vs →
  Calls P f vs.toArray w (fun e w'=>∃ v a G' σ',e = .returned v∧Ext G σ w G' σ' w'∧Sim G' σ' w'∧VRel G' w' a v∧Q a σ')
theorem ACalls.mono {P:Program} {f:Nat} {args:List AV} {σ:Store} {Q Q':AV→Store→Prop} (h:ACalls P f args σ Q) (hq:∀ a s,Q a s→Q' a s):ACalls P f args σ Q' :=
 ⟨h.1,fun G w vs hs hv=>(h.2 G w vs hs hv).mono fun e w' ⟨v,a,G',σ',h1,h2,h3,h4,h5⟩=>⟨v,a,G',σ',h1,h2,h3,h4,hq a σ' h5⟩⟩
theorem ACalls.forget {P:Program} {f:Nat} {args:List AV} {σ:Store} {Q:AV→Store→Prop} (h:ACalls P f args σ (fun a s=>∃ s',Store.sub s' s∧Q a s')):ACalls P f args σ Q :=
 ⟨h.1,fun G w vs hs hv=>(h.2 G w vs hs hv).mono fun e w' ⟨v,a,G',σ',h1,h2,h3,h4,s',h5,h6⟩=>⟨v,a,G',s',h1,h2.sub h5,h3.sub h5,h4,h6⟩⟩
theorem Store.union_left {σ φ:Store} {id:Nat} {o:Obj} (h:σ id=some o):(σ.union φ) id=some o:=by simp [Store.union,h]
theorem Store.union_right {σ φ:Store} {id:Nat} (h:σ id=none):(σ.union φ) id=φ id:=by simp [Store.union,h]
theorem Store.sub_union (σ φ:Store):σ.sub (σ.union φ):=fun _ _ h=>Store.union_left h
theorem Store.sub_union_right {σ φ:Store} (hd:σ.disj φ):φ.sub (σ.union φ):=fun id o h=>by
 cases hσ:σ id with
 | none=>rw [Store.union_right hσ];exact h
 | some x=>rw [hd id x hσ] at h;cases h
theorem Sim.frame {G G':Gh} {σ σ' φ:Store} {w w':World} (hs:Sim G (σ.union φ) w) (hd:σ.disj φ) (hx:Ext G σ w G' σ' w') (hs':Sim G' σ' w') :
 σ'.disj φ∧Ext G (σ.union φ) w G' (σ'.union φ) w'∧Sim G' (σ'.union φ) w':=by
 have hφ:=hs.sub (Store.sub_union_right hd)
 have hσ:=hs.sub (Store.sub_union σ φ)
 have hd':σ'.disj φ:=fun id o ho=>by
  cases hp:φ id with
  | none=>rfl
  | some p =>
    obtain ⟨b,base,h1,_⟩:=hφ.used id p hp
    rcases hx.newId id o ho with ⟨o',h2⟩ | h2
    ·rw [hd id o' h2] at hp;cases hp
    ·rw [h1] at h2;cases h2
 have hnot:∀ id p b base,φ id=some p→G.ρ id=some (b,base)→¬ own G σ b:=fun id p b base hp hb ⟨i,o,base',h1,h2⟩=>by
  have:=hs.inj i id o p b base' base (Store.union_left h1) ((Store.sub_union_right hd) id p hp) h2 hb
  subst this
  rw [hd i o h1] at hp;cases hp
 have huni:∀ {s:Store} {id:Nat} {o:Obj},(s.union φ) id=some o→s id=some o∨(s id=none∧φ id=some o):=fun {s id o} h=>by
  cases hs:s id with
  | none=>rw [Store.union_right hs] at h;exact .inr ⟨rfl,h⟩
  | some x=>rw [Store.union_left hs] at h;exact .inl h
 refine ⟨hd',?_,?_⟩
 ·exact { hx with
   keep:=fun b hb hn=>hx.keep b hb (fun ho=>hn (z0e (Store.sub_union σ φ) ho))
   newI:=fun b hb=>(hx.newI b hb).imp id (Or.imp (z0e (Store.sub_union σ φ)) id)
   newOwn:=fun b ⟨i,o,base,h1,h2⟩=>by
    rcases huni h1 with h | ⟨_,h⟩
    ·exact (hx.newOwn b ⟨i,o,base,h,h2⟩).imp (z0e (Store.sub_union σ φ)) id
    ·obtain ⟨b',base',h3,_⟩:=hφ.used i o h
     rw [hx.ρ _ _ h3] at h2;cases h2
     exact .inl ⟨i,o,base,(Store.sub_union_right hd) i o h,h3⟩
   newId:=fun i o h1=>by
    rcases huni h1 with h | ⟨_,h⟩
    ·rcases hx.newId i o h with ⟨o',h2⟩ | h2
     ·exact .inl ⟨o',Store.union_left h2⟩
     ·exact .inr h2
    ·exact .inl ⟨o,(Store.sub_union_right hd) i o h⟩ }
 ·exact
   { lt:=hs'.lt,fin:=hs'.fin,blk:=hs'.blk
     used:=fun i o h1=>by
      rcases huni h1 with h | ⟨_,h⟩
      ·exact hs'.used i o h
      ·obtain ⟨b,base,h3,h4⟩:=hφ.used i o h
       exact ⟨b,base,hx.ρ _ _ h3,h4.grow (hx.keep b (hφ.blk i b base h3) (hnot i o b base h h3)) fun a v hv=>hx.vrel hσ hv⟩
     inj:=fun i j oi oj b bi bj h1 h2 h3 h4=>by
      rcases huni h1 with h | ⟨_,h⟩ <;> rcases huni h2 with h' | ⟨_,h'⟩
      ·exact hs'.inj i j oi oj b bi bj h h' h3 h4
      ·obtain ⟨c,base,h5,_⟩:=hφ.used j oj h'
       rw [hx.ρ _ _ h5] at h4;cases h4
       rcases hx.newOwn b ⟨i,oi,bi,h,h3⟩ with h6 | h6
       ·exact absurd h6 (hnot j oj _ _ h' h5)
       ·have:=hφ.blk j _ _ h5;omega
      ·obtain ⟨c,base,h5,_⟩:=hφ.used i oi h
       rw [hx.ρ _ _ h5] at h3;cases h3
       rcases hx.newOwn b ⟨j,oj,bj,h',h4⟩ with h6 | h6
       ·exact absurd h6 (hnot i oi _ _ h h5)
       ·have:=hφ.blk i _ _ h5;omega
      ·obtain ⟨c,base,h5,_⟩:=hφ.used i oi h
       obtain ⟨c',base',h6,_⟩:=hφ.used j oj h'
       rw [hx.ρ _ _ h5] at h3;rw [hx.ρ _ _ h6] at h4
       exact hφ.inj i j oi oj b bi bj h h' (by rw [h5];exact h3) (by rw [h6];exact h4)
     apart:=fun i o b base h1 h2=>by
      rcases huni h1 with h | ⟨_,h⟩
      ·exact hs'.apart i o b base h h2
      ·obtain ⟨c,base',h5,_⟩:=hφ.used i o h
       rw [hx.ρ _ _ h5] at h2;cases h2
       intro hI
       rcases hx.newI b hI with h6 | h6 | h6
       ·exact hφ.apart i o _ _ h h5 h6
       ·exact hnot i o _ _ h h5 h6
       ·have:=hφ.blk i _ _ h5;omega }
theorem ACalls.frame {P:Program} {f:Nat} {args:List AV} {σ φ:Store} {Q:AV→Store→Prop} (h:ACalls P f args σ Q) (hd:σ.disj φ) :
 ACalls P f args (σ.union φ) (fun a s=>∃ σ',s=σ'.union φ∧σ'.disj φ∧Q a σ') :=
 ⟨h.1,fun G w vs hs hv=>(h.2 G w vs (hs.sub (Store.sub_union σ φ)) hv).mono fun e w' ⟨v,a,G',σ',h1,h2,h3,h4,h5⟩=>by
   obtain ⟨f1,f2,f3⟩:=hs.frame hd h2 h3
   exact ⟨v,a,G',_,h1,f2,f3,h4,σ',rfl,f1,h5⟩⟩
inductive LO where
 | st (sz:Nat)
 | app (esz bytes:Nat)
 | appz (esz bytes:Nat) (z:List AV)
 | call (f:Nat)
 | callv
 | mupd (mk:MKey)
 | mdel (mk:MKey)
 | nilq (neg:Bool)
 | clr (esz:Nat) (z:List AV)
def nilqwp (neg:Bool) (a:AV) (K:AV→Prop):Prop:=match a with
 | .nils=>K (.bool (!neg))
 | .sl _ []=>K (.bool true)∧K (.bool false)
 | .sl _ (_::_)=>K (.bool neg)
 | .os ..=>K (.bool neg)
 | _=>False
def lwp (P:Program):LO→List AV→Store→(AV→Store→Prop)→Prop
 | .st sz,[p,a],σ,K=>a.isTup=false∧a.cells.length=sz∧match wr σ a.cells p with | some σ'=>K (.tup []) σ' | none=>False
 | .app esz bytes,[x,y],σ,K=>appwp esz bytes x y σ K
 | .appz esz bytes z,[x,y],σ,K=>appzwp esz bytes z x y σ K
 | .call f,args,σ,K=>ACalls P f args σ K
 | .callv,.fn f caps::args,σ,K=>ACalls P f (args++caps) σ K
 | .mupd mk,[m,k,v],σ,K=>mupdwp mk m k v σ (K (.tup []))
 | .mdel mk,[m,k],σ,K=>mdelwp mk m k σ (K (.tup []))
 | .nilq neg,[a],σ,K=>nilqwp neg a (fun b=>K b σ)
 | .clr esz z,[x],σ,K=>clrwp esz z x σ (K (.tup []))
 | _,_,_,_=>False
def compLoudCall (P:Program) (c:Call):Option (LO×List Opd) :=
 match c.callee with
 | .builtin .append=>do
   let [sT,xT]:=c.argTypes.toList | none
   let [x,y]:=c.args.toList | none
   let .slice e ←P.underlying sT | none
   match ←P.underlying xT with
   | .slice _=>do
     let s ←tsz P e
     let i ←P.info? e
     let z ←tzero P e
     if z.length=s∧1≤i.bytes then pure (.app s i.bytes,[←compOpd x,←compOpd y]) else none
   | .int _=>do
     let s ←tsz P e
     let i ←P.info? e
     let z ←tzero P e
     if z.length=s∧1≤i.bytes then pure (.appz s i.bytes z,[←compOpd x,←compOpd y]) else none
   | _=>none
 | .builtin .delete=>do
   let [mT,_]:=c.argTypes.toList | none
   let [x,y]:=c.args.toList | none
   let .map kt _ ←P.underlying mT | none
   pure (.mdel (←keyKind P kt),[←compOpd x,←compOpd y])
 | .builtin .clear=>do
   let [t]:=c.argTypes.toList | none
   let [x]:=c.args.toList | none
   let .slice e ←P.underlying t | none
   let s ←tsz P e
   let z ←tzero P e
   if z.length=s then pure (.clr s z,[←compOpd x]) else none
 | .value (.func f)=>do pure (.call f,←c.args.toList.mapM compOpd)
 | .value (.tmp t)=>do pure (.callv,(.t t)::(←c.args.toList.mapM compOpd))
 | _=>none
def compNilq (P:Program) (op:BinOp) (t:TypeId) (x y:Operand):Option (LO×List Opd):=do
 let .slice _ ←P.underlying t | none
 let .const (.slice none 0 0):=y | none
 match op with
 | .eql=>pure (.nilq false,[←compOpd x])
 | .neq=>pure (.nilq true,[←compOpd x])
 | _=>none
def compLoud (P:Program):Op→Option (LO×List Opd)
 | .store t a x=>do pure (.st (←tsz P t),[←compOpd a,←compOpd x])
 | .call c=>compLoudCall P c
 | .mapUpdate t m k x=>do
   let .map kt _ ←P.underlying t | none
   pure (.mupd (←keyKind P kt),[←compOpd m,←compOpd k,←compOpd x])
 | .binOp op t x y _=>compNilq P op t x y
 | _=>none
section
variable {P:Program} {w:World} {G:Gh} {σ:Store} {oev:Opd→Option AV}
def Does (P:Program) (o:Oper) (a:Act) (G:Gh) (σ:Store) (w:World) (K:AV→Store→Prop):Prop :=
 ∀ (next:Act→World→Prop) (Q:Exit→Act→World→Prop),
   (∀ v w' G' σ' av,Ext G σ w G' σ' w'→Sim G' σ' w'→(VRel G' w' av v∨o.dst=none)→K av σ'→next (a.put o.dst v) w')→o.wp P a w next Q
theorem qq {f:Nat} (h:Ent P f) (args:Array Value):(callFunc f args).run P w = .ok (.enter f args) w:=by
 obtain ⟨fn,h1,h2,h3⟩:=h
 unfold callFunc
 simp only [Sem.run_bind,run_program,Result.andThen_ok,h1,h2,Bool.false_eq_true,if_false]
 have:fn.body.isNone=false:=by cases hb:fn.body <;> simp [hb] at h3 ⊢
 simp only [this,Bool.false_eq_true,if_false,Sem.run_pure]
theorem z2f {o:Oper} {a:Act} {f:Nat} {as:List AV} {vs:List Value} {K:AV→Store→Prop} (hs:Sim G σ w) (hr:Rels (VRel G w) as vs)
 (hrun:(execOp a.eval o).run P w = .ok (.enter f vs.toArray) w) (h:ACalls P f as σ K):Does P o a G σ w K:=by
 intro next Q hn
 unfold Oper.wp
 rw [hrun,Oper.upon_enter]
 refine (h.2 G w vs hs hr).mono ?_
 rintro e w' ⟨v,av,G',σ',rfl,h1,h2,h3,h4⟩
 exact hn v w' G' σ' av h1 h2 (.inl h3) h4
theorem z63 {p:AV} {v:Value} {neg:Bool} {K:AV→Prop} (h:VRel G w p v) (hK:nilqwp neg p K):∃ a n c,v = .slice a n c∧K (.bool (if neg then !a.isNone else a.isNone)):=by
 cases h with
 | nils=>refine ⟨_,_,_,rfl,?_⟩;cases neg <;> exact hK
 | @sl0 e a c =>
   refine ⟨_,_,_,rfl,?_⟩
   obtain ⟨h1,h2⟩:=hK
   cases (if neg then !a.isNone else a.isNone) <;> assumption
 | @sl e es b off c vs _ hne =>
   refine ⟨_,_,_,rfl,?_⟩
   cases es with
   | nil=>exact absurd rfl hne
   | cons x r=>cases neg <;> exact hK
 | os=>refine ⟨_,_,_,rfl,?_⟩;cases neg <;> exact hK
 | os0=>refine ⟨_,_,_,rfl,?_⟩;cases neg <;> exact hK
 | _=>exact hK.elim
theorem zbi {op:BinOp} {t yt:TypeId} {x y:Operand} {lo:LO} {xs:List Opd} {as:List AV} {K:AV→Store→Prop} {ev:Operand→Value} (hcst:∀ v,ev (.const v)=v) (H:OpdOk G w ev oev)
 (hc:compNilq P op t x y=some (lo,xs)) (has:xs.mapM oev=some as) (hK:lwp P lo as σ K):∃ b,Gives P ev (.binOp op t x y yt) w (.bool b)∧K (.bool b) σ:=by
 unfold compNilq at hc
 simp only [Option.bind_eq_bind,Option.pure_def] at hc
 obtain ⟨d,hd,hc⟩:=z9 hc
 split at hc
 case h_2=>cases hc
 split at hc
 case h_2=>cases hc
 have key:∀ (neg:Bool) (X:Opd),op=(if neg then .neq else .eql)→compOpd x=some X→[X].mapM oev=some as→lwp P (.nilq neg) as σ K→∃ b,Gives P ev (.binOp op t x (.const (.slice none 0 0)) yt) w (.bool b)∧K (.bool b) σ:=by
  intro neg X hop hX has hK
  obtain ⟨p',h1,rfl⟩:=yg has
  have hx:=H x X p' hX h1
  simp only [lwp] at hK
  obtain ⟨a,n,c,hv,hb⟩:=z63 hx hK
  refine ⟨_,zr (fun _ _ _ _ _=>rfl) ?_,hb⟩
  rw [hv,hcst]
  simp only [Sem.run_bind,x7 (P:=P) (w:=w) (a := .slice a n c) (by simp) (by simp),Result.andThen_ok]
  rw [hop]
  exact qt (P:=P) (w:=w) (neg:=neg) (t:=t) rfl rfl (qi 9999 hd a n c)
 split at hc
 ·obtain ⟨X,hX,hc⟩:=z9 hc;cases hc;exact key false X rfl hX has hK
 ·obtain ⟨X,hX,hc⟩:=z9 hc;cases hc;exact key true X rfl hX has hK
 ·cases hc
theorem zbd {o:Oper} {a:Act} {lo:LO} {xs:List Opd} {as:List AV} {K:AV→Store→Prop} (hs:Sim G σ w) (H:OpdOk G w a.eval oev)
 (hc:compLoud P o.op=some (lo,xs)) (hdst:(∃ t x y,o.op = .store t x y)∨(∃ t x y z,o.op = .mapUpdate t x y z)→o.dst=none) (has:xs.mapM oev=some as) (hK:lwp P lo as σ K):Does P o a G σ w K:=by
 obtain ⟨dst,op,ty,pos,after,guard⟩:=o
 unfold compLoud at hc
 simp only [Option.bind_eq_bind,Option.pure_def] at hc
 split at hc
 ·rename_i t p x
  obtain ⟨n,hn,hc⟩:=z9 hc
  obtain ⟨X,hX,hc⟩:=z9 hc
  obtain ⟨Y,hY,hc⟩:=z9 hc
  cases hc
  obtain ⟨q,r,h1,h2,rfl⟩:=yr has
  have hp:=H p X q hX h1
  have hx:=H x Y r hY h2
  simp only [lwp] at hK
  obtain ⟨ht,hl,hK⟩:=hK
  split at hK
  ·rename_i σ' hw
   obtain ⟨hrel,hfl⟩:=z5n hx ht
   obtain ⟨b,o,hv,w',hrun,hext,hsim⟩:=zfh (P:=P) hs hp hrel hfl hw
   intro next Q hnext
   unfold Oper.wp
   have:(execOp a.eval ⟨dst,.store t p x,ty,pos,after,guard⟩).run P w = .ok .skip w':=by
    show (do Instr.storeAt t (a.eval p) (a.eval x);pure .skip:Sem Next).run P w=_
    rw [hv]
    unfold Instr.storeAt Instr.sureAddr storeVar
    have hsz:(a.eval x).cells.size=n:=by rw [←hl];exact (hrel.length.trans (by simp)).symm
    simp only [Sem.run_bind,Sem.run_pure,Result.andThen_ok,y9 hn,hsz,ne_eq,not_true_eq_false,if_false,hrun,pure_bind]
   rw [this,Oper.upon_skip]
   exact hnext undef w' G σ' _ hext hsim (.inr (hdst (.inl ⟨t,p,x,rfl⟩))) hK
  ·exact hK.elim
 ·rename_i c
  obtain ⟨callee,args,ats⟩:=c
  unfold compLoudCall at hc
  simp only [Option.bind_eq_bind,Option.pure_def] at hc
  split at hc
  ·split at hc
   ·rename_i sT xT hats
    split at hc
    ·rename_i x y hargs
     obtain ⟨d,hd,hc⟩:=z9 hc
     split at hc
     ·rename_i e
      obtain ⟨d',hd',hc⟩:=z9 hc
      split at hc
      ·obtain ⟨s,hsz,hc⟩:=z9 hc
       obtain ⟨i,hi,hc⟩:=z9 hc
       obtain ⟨z,hz,hc⟩:=z9 hc
       split at hc
       ·rename_i hzl
        obtain ⟨hzl,hb⟩:=hzl
        obtain ⟨X,hX,hc⟩:=z9 hc
        obtain ⟨Y,hY,hc⟩:=z9 hc
        cases hc
        obtain ⟨p,q,h1,h2,rfl⟩:=yr has
        simp only [lwp] at hK
        have hats':ats = #[sT,xT]:=by rw [←Array.toArray_toList (xs:=ats),hats]
        have hargs':args = #[x,y]:=by rw [←Array.toArray_toList (xs:=args),hargs]
        subst hats' hargs'
        obtain ⟨v,w',G',σ',av,g1,g2,g3,g4,g5⟩:=zd0 (ty:=ty) hs hd hsz hd' (fun k=>by simp) hi hb hz hzl (H x X p hX h1) (H y Y q hY h2) hK
        intro next Q hnext
        unfold Oper.wp
        have:(execOp a.eval ⟨dst,.call { callee := .builtin .append,args := #[x,y],argTypes := #[sT,xT] },ty,pos,after,guard⟩).run P w = .ok (.value v) w':=by
         simp [execOp,resolve,invoke,builtin,g1]
        rw [this,Oper.upon_value]
        exact hnext v w' G' σ' av g2 g3 (.inl g4) g5
       ·cases hc
      ·obtain ⟨s,hsz,hc⟩:=z9 hc
       obtain ⟨i,hi,hc⟩:=z9 hc
       obtain ⟨z,hz,hc⟩:=z9 hc
       split at hc
       ·rename_i hzl
        obtain ⟨hzl,hb⟩:=hzl
        obtain ⟨X,hX,hc⟩:=z9 hc
        obtain ⟨Y,hY,hc⟩:=z9 hc
        cases hc
        obtain ⟨p,q,h1,h2,rfl⟩:=yr has
        simp only [lwp] at hK
        have hats':ats = #[sT,xT]:=by rw [←Array.toArray_toList (xs:=ats),hats]
        have hargs':args = #[x,y]:=by rw [←Array.toArray_toList (xs:=args),hargs]
        subst hats' hargs'
        obtain ⟨v,w',G',σ',av,g1,g2,g3,g4,g5⟩:=zam (ty:=ty) hs hd hsz hd' hi hb hz hzl (H x X p hX h1) (H y Y q hY h2) hK
        intro next Q hnext
        unfold Oper.wp
        have:(execOp a.eval ⟨dst,.call { callee := .builtin .append,args := #[x,y],argTypes := #[sT,xT] },ty,pos,after,guard⟩).run P w = .ok (.value v) w':=by
         simp [execOp,resolve,invoke,builtin,g1]
        rw [this,Oper.upon_value]
        exact hnext v w' G' σ' av g2 g3 (.inl g4) g5
       ·cases hc
      ·cases hc
     ·cases hc
    ·cases hc
   ·cases hc
  ·split at hc
   ·rename_i mT kT hats
    split at hc
    ·rename_i x y hargs
     obtain ⟨d,hd,hc⟩:=z9 hc
     split at hc
     ·rename_i kt et
      obtain ⟨mk,hmk,hc⟩:=z9 hc
      obtain ⟨X,hX,hc⟩:=z9 hc
      obtain ⟨Y,hY,hc⟩:=z9 hc
      cases hc
      obtain ⟨p,q,h1,h2,rfl⟩:=yr has
      simp only [lwp] at hK
      have hats':ats = #[mT,kT]:=by rw [←Array.toArray_toList (xs:=ats),hats]
      have hargs':args = #[x,y]:=by rw [←Array.toArray_toList (xs:=args),hargs]
      subst hats' hargs'
      obtain ⟨w',σ',g1,g2,g3,g5⟩:=zbf (ty:=ty) (kT:=kT) hs hd hmk (H x X p hX h1) (H y Y q hY h2) hK
      intro next Q hnext
      unfold Oper.wp
      have:(execOp a.eval ⟨dst,.call { callee := .builtin .delete,args := #[x,y],argTypes := #[mT,kT] },ty,pos,after,guard⟩).run P w = .ok (.value (.tuple #[])) w':=by
       simp [execOp,resolve,invoke,builtin,g1]
      rw [this,Oper.upon_value]
      exact hnext (.tuple #[]) w' G σ' _ g2 g3 (.inl (.tup (cs:=[]) rfl (fun k h=>absurd h (by simp)))) g5
     ·cases hc
    ·cases hc
   ·cases hc
  ·split at hc
   ·rename_i tT hats
    split at hc
    ·rename_i x hargs
     obtain ⟨d,hd,hc⟩:=z9 hc
     split at hc
     ·rename_i e
      obtain ⟨s,hsz,hc⟩:=z9 hc
      obtain ⟨z,hz,hc⟩:=z9 hc
      split at hc
      ·rename_i hzl
       obtain ⟨X,hX,hc⟩:=z9 hc
       cases hc
       obtain ⟨p,h1,rfl⟩:=yg has
       simp only [lwp] at hK
       have hats':ats = #[tT]:=by rw [←Array.toArray_toList (xs:=ats),hats]
       have hargs':args = #[x]:=by rw [←Array.toArray_toList (xs:=args),hargs]
       subst hats' hargs'
       obtain ⟨w',σ',g1,g2,g3,g5⟩:=zdb (ty:=ty) hs hd hsz hz hzl (H x X p hX h1) hK
       intro next Q hnext
       unfold Oper.wp
       have:(execOp a.eval ⟨dst,.call { callee := .builtin .clear,args := #[x],argTypes := #[tT] },ty,pos,after,guard⟩).run P w = .ok (.value (.tuple #[])) w':=by
        simp [execOp,resolve,invoke,builtin,g1]
       rw [this,Oper.upon_value]
       exact hnext (.tuple #[]) w' G σ' _ g2 g3 (.inl (.tup (cs:=[]) rfl (fun k h=>absurd h (by simp)))) g5
      ·cases hc
     ·cases hc
    ·cases hc
   ·cases hc
  ·rename_i f
   obtain ⟨ys,hys,hc⟩:=z9 hc
   cases hc
   simp only [lwp] at hK
   have hrel:=xg H (f:=compOpd) (g:=fun x=>x) (fun x y h=>h) args.toList _ as hys has
   have hr:=Rels.map_right (R:=VRel G w) (f:=a.eval) hrel
   refine z2f hs hr ?_ hK
   have e:args.map a.eval=(args.toList.map a.eval).toArray:=by rw [←List.map_toArray]
   show (do let d ←resolve a.eval { callee := .value (.func f),args,argTypes:=ats } ty;invoke d.target d.args:Sem Next).run P w=_
   simp only [resolve,Act.eval,Deferred.ofValue,pure_bind,invoke,Array.empty_append,Array.append_empty]
   have e':(args.map fun x=>a.eval x)=(args.toList.map a.eval).toArray:=e
   rw [qq hK.1]
   congr 2
  ·rename_i t
   obtain ⟨ys,hys,hc⟩:=z9 hc
   cases hc
   simp only [List.mapM_cons,Option.bind_eq_bind,Option.pure_def] at has
   obtain ⟨fa,hfa,has⟩:=z9 has
   obtain ⟨as',has',has⟩:=z9 has
   simp at has;subst has
   have hf:=H (.tmp t) (.t t) fa rfl hfa
   obtain ⟨f,caps,rfl⟩:∃ f caps,fa = .fn f caps:=by
    cases fa <;> simp only [lwp] at hK
    exact ⟨_,_,rfl⟩
   simp only [lwp] at hK
   have hrel:=xg H (f:=compOpd) (g:=fun x=>x) (fun x y h=>h) args.toList _ as' hys has'
   have hr:=Rels.map_right (R:=VRel G w) (f:=a.eval) hrel
   obtain ⟨cs,hv,hl,hcv⟩:=hf.of_fn
   have hr2:Rels (VRel G w) (as'++caps) (args.toList.map a.eval++cs):=hr.append (Rels.of_get hl hcv)
   refine z2f hs hr2 ?_ hK
   have e:args.map a.eval=(args.toList.map a.eval).toArray:=by rw [←List.map_toArray]
   show (do let d ←resolve a.eval { callee := .value (.tmp t),args,argTypes:=ats } ty;invoke d.target d.args:Sem Next).run P w=_
   simp only [resolve,hv,Deferred.ofValue,pure_bind,invoke,Array.empty_append]
   rw [qq hK.1]
   congr 2
   rw [e];simp
  ·cases hc
 ·rename_i t m k x
  obtain ⟨d,hd,hc⟩:=z9 hc
  split at hc
  ·rename_i kt et
   obtain ⟨mk,hmk,hc⟩:=z9 hc
   obtain ⟨X,hX,hc⟩:=z9 hc
   obtain ⟨Y,hY,hc⟩:=z9 hc
   obtain ⟨Z,hZ,hc⟩:=z9 hc
   cases hc
   obtain ⟨p,q,r,h1,h2,h3,rfl⟩:=zaj has
   simp only [lwp] at hK
   obtain ⟨w',σ',g1,g2,g3,g5⟩:=zbh hs hd hmk (H m X p hX h1) (H k Y q hY h2) (H x Z r hZ h3) hK
   intro next Q hnext
   unfold Oper.wp
   have:(execOp a.eval ⟨dst,.mapUpdate t m k x,ty,pos,after,guard⟩).run P w = .ok .skip w':=by
    show (do Instr.mapUpdate t (a.eval m) (a.eval k) (a.eval x);pure .skip:Sem Next).run P w=_
    simp only [Sem.run_bind,g1,Result.andThen_ok,Sem.run_pure]
   rw [this,Oper.upon_skip]
   exact hnext undef w' G σ' _ g2 g3 (.inr (hdst (.inr ⟨t,m,k,x,rfl⟩))) g5
  ·cases hc
 ·rename_i op t x y yt
  obtain ⟨b,h1,h2⟩:=zbi (yt:=yt) (fun _=>rfl) H hc has hK
  intro next Q hnext
  unfold Oper.wp
  rw [h1 dst ty pos after guard,Oper.upon_value]
  exact hnext (.bool b) w G σ _ (Ext.refl _ _ _) hs (.inl (.bool b)) h2
 ·cases hc
end
end Go.Am
namespace Go.Am
inductive BK where
 | pure (k:PK)
 | pick
 | load (k:LK)
 | alloc (k:AK)
 | loud (k:LO)
 | qcall (f:Nat)
 | bad
structure BOp where
 dst:Option Nat
 guard:Option (Nat×Bool)
 kind:BK
 xs:List Opd
abbrev FE:=Nat→Option AV
def FE.put (f:FE) (d:Option Nat) (a:AV):FE:=match d with
 | none=>f
 | some t=>fun n=>if n=t then some a else f n
def fev (f:FE):Opd→Option AV
 | .t n=>f n
 | .c a=>some a
inductive TT where
 | bad
 | const (a:AV)
 | load (k:LK) (as:List AV)
 | alloc (o:Obj) (f:Nat→AV)
 | loud (k:LO) (as:List AV)
 | qcall (f:Nat) (as:List AV)
def BOp.exec (o:BOp) (f:FE):TT :=
 match o.kind with
 | .pure k=>match o.xs.mapM (fev f) with
   | some as=>match pv k as with | some a => .const a | none => .bad
   | none => .bad
 | .pick=>match o.xs with
   | [c,x,y]=>match fev f c with
     | some (.bool true)=>match fev f x with | some a => .const a | none => .bad
     | some (.bool false)=>match fev f y with | some a => .const a | none => .bad
     | _ => .bad
   | _ => .bad
 | .load k=>match o.xs.mapM (fev f) with | some as => .load k as | none => .bad
 | .alloc k=>match o.xs.mapM (fev f) with
   | some as=>match alv k as with | some (ob,g) => .alloc ob g | none => .bad
   | none => .bad
 | .loud k=>match o.xs.mapM (fev f) with | some as => .loud k as | none => .bad
 | .qcall k=>match o.xs.mapM (fev f) with | some as => .qcall k as | none => .bad
 | .bad => .bad
def BOp.tt (o:BOp) (f:FE):TT :=
 match o.guard with
 | none=>o.exec f
 | some (g,b)=>match f g with
   | some (.bool v)=>if v=b then o.exec f else .const (.tup [])
   | some (.tup []) => .const (.tup [])
   | _ => .bad
def TT.run (P:Program):TT→Store→(AV→Store→Prop)→Prop
 | .bad,_,_=>False
 | .const a,σ,K=>K a σ
 | .load k as,σ,K=>∃ a,ldv k as σ=some a∧K a σ
 | .alloc o f,σ,K=>∀ id,σ id=none→K (f id) (σ.set id o)
 | .loud k as,σ,K=>lwp P k as σ K
 | .qcall f as,σ,K=>ACalls P f as σ (fun a s=>Store.sub σ s∧K a s)
def fops (P:Program):List BOp→FE→Store→(FE→Store→Prop)→Prop
 | [],f,σ,K=>K f σ
 | o::r,f,σ,K=>(o.tt f).run P σ fun a s=>fops P r (f.put o.dst a) s K
def compQ (P:Program) (op:Op):Option (LO×List Opd):=match op with
 | .binOp b t x y _=>compNilq P b t x y
 | _=>none
theorem z5r {P:Program} {op:Op} {r:LO×List Opd} (h:compQ P op=some r):compLoud P op=some r:=by
 unfold compQ at h
 split at h
 ·exact h
 ·cases h
def compKind (P:Program) (draw:Bool) (op:Op):Option (BK×List Opd) :=
 match op with
 | .pick c a b=>do pure (.pick,[←compOpd c,←compOpd a,←compOpd b])
 | _ =>
 match compQ P op with
 | some (k,xs)=>some (.loud k,xs)
 | none=>match compPure P op with
 | some (k,xs)=>some (.pure k,xs)
 | none=>match compLoad P op with
   | some (k,xs)=>some (.load k,xs)
   | none=>match compAlloc P op with
     | some (k,xs)=>some (.alloc k,xs)
     | none=>match compLoud P op with
       | some (.call f,xs)=>if draw then some (.qcall f,xs) else some (.loud (.call f),xs)
       | some (k,xs)=>some (.loud k,xs)
       | none=>some (.bad,[])
def isStore:Op→Bool
 | .store ..=>true
 | .mapUpdate ..=>true
 | _=>false
def guardOf (ops:Array Oper):Option (Nat×Bool)→Option (Option (Nat×Bool))
 | none=>some none
 | some (j,b)=>((ops[j]?).bind (·.dst)).map fun t=>some (t,b)
def dstOk (N:Nat):Option Nat→Bool
 | some d=>decide (d<N)
 | none=>true
def compOp (P:Program) (draw:Bool) (N:Nat) (ops:Array Oper) (o:Oper):Option BOp :=
 match compKind P draw o.op,guardOf ops o.guard with
 | some (k,xs),some g=>if dstOk N o.dst && (!isStore o.op || o.dst.isNone) then some ⟨o.dst,g,k,xs⟩ else none
 | _,_=>none
structure Ref where
 G:Gh
 σ:Store
 w:World
def St (R:Ref) (N:Nat) (f:FE) (σ:Store) (a:Act) (w:World):Prop :=
 ∃ G,Ext R.G R.σ R.w G σ w∧Sim G σ w∧a.tmps.size=N∧a.defers=[]∧∀ t v,f t=some v→∃ x,a.tmps[t]? = some x∧VRel G w v x
section
variable {P:Program} {R:Ref} {N:Nat} {f:FE} {σ:Store} {a:Act} {w:World}
theorem z6z {G:Gh} (h:∀ t v,f t=some v→∃ x,a.tmps[t]? = some x∧VRel G w v x):OpdOk G w a.eval (fev f):=by
 intro x y v hc hv
 cases x <;> simp only [compOpd] at hc
 ·cases hc
  obtain ⟨x,hx,hr⟩:=h _ _ hv
  simp only [Act.eval]
  rw [Array.getD_eq_getD_getElem?,hx];exact hr
 ·obtain ⟨u,hu,rfl⟩:=Option.map_eq_some_iff.1 hc
  cases hv
  exact z0p hu
 ·cases hc
 ·cases hc
  cases hv
  exact .fn (cs:=[]) rfl (fun k h=>absurd h (by simp))
theorem zbl {t d:Nat} {v:Value} (hd:d<a.tmps.size):(a.put (some d) v).tmps[t]? = if t=d then some v else a.tmps[t]? := by
 simp only [Act.put]
 by_cases h:t=d
 ·subst h;simp [hd]
 ·rw [Array.getElem?_setIfInBounds_ne (Ne.symm h),if_neg h]
theorem St.put {dst:Option Nat} {v:Value} {av:AV} {σ':Store} {w':World} {G G':Gh} (hx:Ext R.G R.σ R.w G σ w) (hs:Sim G σ w) (hN:a.tmps.size=N) (hdf:a.defers=[])
 (h:∀ t v,f t=some v→∃ x,a.tmps[t]? = some x∧VRel G w v x) (hd:∀ d,dst=some d→d<N)
 (hx':Ext G σ w G' σ' w') (hs':Sim G' σ' w') (hv:VRel G' w' av v∨dst=none):St R N (f.put dst av) σ' (a.put dst v) w':=by
 refine ⟨G',hx.trans hx',hs',?_,?_,fun t u ht => ?_⟩
 ·cases dst <;> simp [Act.put,hN]
 ·cases dst <;> simp [Act.put,hdf]
 ·cases dst with
  | none =>
    obtain ⟨x,h1,h2⟩:=h t u ht
    exact ⟨x,h1,hx'.vrel hs h2⟩
  | some d =>
    rw [zbl (by rw [hN];exact hd d rfl)]
    simp only [FE.put] at ht
    split at ht
    ·rename_i he;subst he
     cases ht
     rw [if_pos rfl]
     exact ⟨v,rfl,hv.resolve_right (by simp)⟩
    ·rename_i he
     rw [if_neg he]
     obtain ⟨x,h1,h2⟩:=h t u ht
     exact ⟨x,h1,hx'.vrel hs h2⟩
def wantB (tmps:Array Value):Option (Nat×Bool)→Bool
 | none=>true
 | some (t,b)=>match tmps[t]? with
   | some (.bool v)=>v ==b
   | _=>false
theorem z8o {ops:Array Oper} {o:Oper} {g:Option (Nat×Bool)} (hg:guardOf ops o.guard=some g) :
 Region.wanted o (yielded ops a.tmps)=wantB a.tmps g:=by
 unfold Region.wanted
 cases hgu:o.guard with
 | none=>rw [hgu] at hg;cases hg;rfl
 | some p =>
   obtain ⟨j,b⟩:=p
   rw [hgu] at hg
   obtain ⟨t,ht,rfl⟩:=Option.map_eq_some_iff.1 hg
   simp only [yielded,ht,Option.bind_some,wantB]
   cases hv:a.tmps[t]? with
   | none=>rfl
   | some x=>cases x <;> first | rfl | (rename_i v;cases v <;> cases b <;> rfl)
theorem z3t {ops:Array Oper} {draw:Bool} {o:Oper} {bo:BOp} {K:AV→Store→Prop} {next:Act→World→Prop} {Q:Exit→Act→World→Prop}
 (hc:compOp P draw N ops o=some bo) (hst:St R N f σ a w) (hrun:(bo.tt f).run P σ K)
 (hn:∀ av σ' a' w',St R N (f.put o.dst av) σ' a' w'→K av σ'→next a' w') :
 if Region.wanted o (yielded ops a.tmps) then o.wp P a w next Q∨(o.asks P a w∧LetsOut Q) else next (a.put o.dst undef) w:=by
 obtain ⟨G,hx,hs,hN,hdf,hE⟩:=hst
 unfold compOp at hc
 split at hc
 case h_2=>cases hc
 rename_i k xs g hk hg
 split at hc
 ·rename_i hd
  simp only [Bool.and_eq_true,Bool.or_eq_true,Bool.not_eq_true',Option.isNone_iff_eq_none] at hd
  obtain ⟨hd,hst⟩:=hd
  cases hc
  have hd':∀ d,o.dst=some d→d<N:=fun d hd2=>by rw [hd2] at hd;simpa [dstOk] using hd
  rw [z8o (a:=a) hg]
  have hskip:K (.tup []) σ→next (a.put o.dst undef) w:=fun hK =>
   hn (.tup []) σ _ _ (St.put hx hs hN hdf hE hd' (Ext.refl _ _ _) hs (.inl (.tup (cs:=[]) rfl (fun k h=>absurd h (by simp))))) hK
  have hexec:(BOp.exec ⟨o.dst,g,k,xs⟩ f).run P σ K→o.wp P a w next Q:=fun hr=>by
   have H:OpdOk G w a.eval (fev f):=z6z hE
   have hcst:∀ v,a.eval (.const v)=v:=fun _=>rfl
   have hval:∀ v w' G' σ' av,(execOp a.eval o).run P w = .ok (.value v) w'→Ext G σ w G' σ' w'→Sim G' σ' w'→VRel G' w' av v→K av σ'→o.wp P a w next Q:=by
    intro v w' G' σ' av h1 h2 h3 h4 h5
    unfold Oper.wp
    rw [h1,Oper.upon_value]
    exact hn av σ' _ _ (St.put hx hs hN hdf hE hd' h2 h3 (.inl h4)) h5
   have hdoes:∀ K',Does P o a G σ w K'→(∀ av s,K' av s→K av s)→o.wp P a w next Q:=fun K' hd2 hKK =>
    hd2 next Q fun v w' G' σ' av h1 h2 h3 h4=>hn av σ' _ _ (St.put hx hs hN hdf hE hd' h1 h2 h3) (hKK _ _ h4)
   obtain ⟨dst,op,ty,pos,after,guard⟩:=o
   unfold compKind at hk
   split at hk
   ·rename_i c x y heq
    simp only at heq;subst heq
    simp only [Option.bind_eq_bind,Option.pure_def] at hk
    obtain ⟨C,hC,hk⟩:=z9 hk
    obtain ⟨X,hX,hk⟩:=z9 hk
    obtain ⟨Y,hY,hk⟩:=z9 hk
    cases hk
    simp only [BOp.exec] at hr
    split at hr
    ·rename_i hc'
     have hcv:=(H c C _ hC hc').of_bool
     split at hr
     ·rename_i u hu
      exact hval (a.eval x) w G σ u (by simp [execOp,hcv,asBool]) (Ext.refl _ _ _) hs (H x X u hX hu) hr
     ·exact hr.elim
    ·rename_i hc'
     have hcv:=(H c C _ hC hc').of_bool
     split at hr
     ·rename_i u hu
      exact hval (a.eval y) w G σ u (by simp [execOp,hcv,asBool]) (Ext.refl _ _ _) hs (H y Y u hY hu) hr
     ·exact hr.elim
    ·exact hr.elim
   ·have hloud:∀ lo ys as,compLoud P op=some (lo,ys)→ys.mapM (fev f)=some as→∀ K',lwp P lo as σ K'→(∀ av s,K' av s→K av s)→(⟨dst,op,ty,pos,after,guard⟩:Oper).wp P a w next Q :=
     fun lo ys as hlo has K' hK' hKK=>hdoes K' (zbd hs H hlo (fun hh=>hst.resolve_left (by rcases hh with ⟨t,x,y,he⟩ | ⟨t,x,y,z,he⟩ <;> (simp only at he;rw [he];simp [isStore]))) has hK') hKK
    split at hk
    ·rename_i lo ys hq
     cases hk
     simp only [BOp.exec] at hr
     split at hr
     ·rename_i as has
      exact hloud _ _ as (z5r hq) has _ hr (fun _ _ h=>h)
     ·exact hr.elim
    split at hk
    ·rename_i pk ys hpk
     cases hk
     simp only [BOp.exec] at hr
     split at hr
     ·rename_i as has
      split at hr
      ·rename_i av hp
       obtain ⟨v,h1,h2⟩:=zbj (P:=P) H hcst hpk has hp
       exact hval v w G σ av (h1 _ _ _ _ _) (Ext.refl _ _ _) hs h2 hr
      ·exact hr.elim
     ·exact hr.elim
    ·split at hk
     ·rename_i lk ys hlk
      cases hk
      simp only [BOp.exec] at hr
      split at hr
      ·rename_i as has
       obtain ⟨av,hp,hr⟩:=hr
       obtain ⟨v,h1,h2⟩:=zbc (P:=P) hs H hlk has hp
       exact hval v w G σ av (h1 _ _ _ _ _) (Ext.refl _ _ _) hs h2 hr
      ·exact hr.elim
     ·split at hk
      ·rename_i ak ys hak
       cases hk
       simp only [BOp.exec] at hr
       split at hr
       ·rename_i as has
        split at hr
        ·rename_i ob g2 hp
         obtain ⟨id,hρ,hσ⟩:=hs.fresh
         obtain ⟨v,w',G',h1,h2,h3,h4⟩:=z8s (P:=P) hs H hak has hp hρ hσ
         exact hval v w' G' _ _ (h1 _ _ _ _ _) h2 h3 h4 (hr id hσ)
        ·exact hr.elim
       ·exact hr.elim
      ·split at hk
       ·rename_i fn ys hlo
        split at hk
        ·cases hk
         simp only [BOp.exec] at hr
         split at hr
         ·rename_i as has
          exact hloud _ _ as hlo has _ hr (fun av s h=>h.2)
         ·exact hr.elim
        ·cases hk
         simp only [BOp.exec] at hr
         split at hr
         ·rename_i as has
          exact hloud _ _ as hlo has _ hr (fun _ _ h=>h)
         ·exact hr.elim
       ·rename_i lo ys _ hlo
        cases hk
        simp only [BOp.exec] at hr
        split at hr
        ·rename_i as has
         exact hloud _ _ as hlo has _ hr (fun _ _ h=>h)
        ·exact hr.elim
       ·cases hk
        exact hr.elim
  cases g with
  | none =>
    simp only [BOp.tt] at hrun
    simp only [wantB,if_true]
    exact .inl (hexec hrun)
  | some p =>
    obtain ⟨t,b⟩:=p
    simp only [BOp.tt] at hrun
    split at hrun
    ·rename_i v hv
     obtain ⟨x,h1,h2⟩:=hE t _ hv
     rw [h2.of_bool] at h1
     simp only [wantB,h1]
     split at hrun
     ·rename_i he
      subst he
      simp only [BEq.rfl,if_true]
      exact .inl (hexec hrun)
     ·rename_i he
      have:(v ==b)=false:=by cases v <;> cases b <;> simp_all
      simp only [this,Bool.false_eq_true,if_false]
      exact hskip hrun
    ·rename_i hv
     obtain ⟨x,h1,h2⟩:=hE t _ hv
     obtain ⟨cs,rfl,hl,_⟩:=h2.of_tup
     simp only [wantB,h1,Bool.false_eq_true,if_false]
     exact hskip hrun
    ·exact hrun.elim
 ·cases hc
end
end Go.Am
namespace Go.Am
theorem TT.run_mono {P:Program} {t:TT} {σ:Store} {K K':AV→Store→Prop} (h:∀ a s,K a s→K' a s) (hr:t.run P σ K):t.run P σ K':=by
 cases t with
 | bad=>exact hr
 | const a=>exact h _ _ hr
 | load k as=>obtain ⟨a,h1,h2⟩:=hr;exact ⟨a,h1,h _ _ h2⟩
 | alloc o f=>exact fun id hid=>h _ _ (hr id hid)
 | qcall f as=>exact hr.mono fun a s ⟨h1,h2⟩=>⟨h1,h _ _ h2⟩
 | loud k as =>
   simp only [TT.run] at hr ⊢
   unfold lwp at hr ⊢
   split at hr
   ·obtain ⟨h1,h2,h3⟩:=hr
    refine ⟨h1,h2,?_⟩
    split at h3
    ·first | exact h _ _ h3 | (rename_i heq;rw [heq];exact h _ _ h3)
    ·exact h3.elim
   ·unfold appwp at hr ⊢
    split at hr
    ·obtain ⟨h3,h4⟩:=hr
     refine ⟨h3,?_⟩
     split at h4
     ·exact ⟨fun e=>h _ _ (h4.1 e),fun e id hid=>h _ _ (h4.2 e id hid)⟩
     ·rcases h4 with h4 | ⟨h4,h5,h6⟩
      ·exact .inl fun id hid=>h _ _ (h4 id hid)
      ·exact .inr ⟨h4,h _ _ h5,fun id hid=>h _ _ (h6 id hid)⟩
     ·exact h4.elim
    ·exact hr.elim
   ·unfold appzwp at hr ⊢
    split at hr
    ·exact ⟨hr.1,hr.2.1,fun e=>h _ _ (hr.2.2.1 e),fun e id hid=>h _ _ (hr.2.2.2 e id hid)⟩
    ·exact hr.elim
   ·exact hr.mono h
   ·exact hr.mono h
   ·unfold mupdwp at hr ⊢
    refine ⟨hr.1,?_⟩
    have hr:=hr.2
    split at hr
    ·split at hr
     ·split at hr
      ·exact h _ _ hr
      ·exact h _ _ hr
      ·exact hr.elim
     ·exact hr.elim
    ·exact hr.elim
   ·unfold mdelwp at hr ⊢
    refine ⟨hr.1,?_⟩
    have hr:=hr.2
    split at hr
    ·split at hr
     ·split at hr
      ·exact h _ _ hr
      ·exact h _ _ hr
      ·exact hr.elim
     ·exact hr.elim
    ·exact h _ _ hr
    ·exact hr.elim
   ·unfold nilqwp at hr ⊢
    split at hr
    ·exact h _ _ hr
    ·exact ⟨h _ _ hr.1,h _ _ hr.2⟩
    ·exact h _ _ hr
    ·exact h _ _ hr
    ·exact hr.elim
   ·unfold clrwp at hr ⊢
    split at hr
    ·exact h _ _ hr
    ·split at hr
     ·exact ⟨hr.1,hr.2.1,hr.2.2.1,h _ _ hr.2.2.2⟩
     ·exact hr.elim
    ·exact hr.elim
   ·exact hr.elim
section
variable {P:Program} {R:Ref} {N:Nat} {ops:Array Oper} {Q:Exit→Act→World→Prop}
theorem z18 {draw:Bool} {o:Oper} {bo:BOp} (hc:compOp P draw N ops o=some bo):bo.dst=o.dst:=by
 unfold compOp at hc
 split at hc
 ·split at hc
  ·cases hc;rfl
  ·cases hc
 ·cases hc
theorem z1b {draw:Bool}:∀ (l:List Oper) (bl:List BOp),l.mapM (compOp P draw N ops)=some bl→∀ (f:FE) (σ:Store) (a:Act) (w:World) (K:FE→Store→Prop),St R N f σ a w→fops P bl f σ K →
 (∀ f' σ' a' w',St R N f' σ' a' w'→K f' σ'→Q .normal a' w')→wpList P ops Q l a w
 | [],bl,hc,f,σ,a,w,K,hst,hf,hq=>by
   simp at hc;subst hc
   exact hq f σ a w hst hf
 | o::l,bl,hc,f,σ,a,w,K,hst,hf,hq=>by
   simp only [List.mapM_cons,Option.bind_eq_bind,Option.pure_def] at hc
   obtain ⟨b,hb,hc⟩:=z9 hc
   obtain ⟨bs,hbs,hc⟩:=z9 hc
   simp at hc;subst hc
   simp only [fops] at hf
   have:=z3t (next:=wpList P ops Q l) (Q:=Q) hb hst hf (fun av σ' a' w' h1 h2=>z1b l bs hbs _ _ a' w' K h1 (by rw [z18 hb] at h2;exact h2) hq)
   unfold wpList
   exact this
def Opd.slot:Opd→List Nat
 | .t n=>[n]
 | .c _=>[]
def BOp.looks (b:BOp):List Nat:=b.xs.flatMap Opd.slot++(match b.guard with | some (g,_)=>[g] | none=>[])
def apartB (x y:BOp):Bool :=
 (match x.dst with | some d => !(y.looks).contains d && y.dst != some d | none=>true) &&
 (match y.dst with | some d => !(x.looks).contains d | none=>true)
def plainAlloc (b:BOp):Bool :=
 match b.kind,b.xs,b.guard with
 | .alloc (.alloc _),[],none=>true
 | _,_,_=>false
def mayFirst (x y:BOp):Bool :=
 match x.kind with
 | .pure _ | .pick=>true
 | .load _=>match y.kind with
   | .loud (.nilq _)=>true
   | .loud _=>false
   | _=>true
 | .qcall _ | .alloc _=>plainAlloc y
 | .loud _ | .bad=>false
theorem z4y {f:FE} {d:Option Nat} {a:AV} {x:Opd} (h:∀ t,d=some t→t ∉ x.slot):fev (f.put d a) x=fev f x:=by
 cases x with
 | c=>rfl
 | t n =>
   cases d with
   | none=>rfl
   | some t =>
     have:n≠t:=fun e=>h t rfl (by simp [Opd.slot,e])
     simp [fev,FE.put,this]
theorem qx {f:FE} {d:Option Nat} {a:AV}:∀ {xs:List Opd},(∀ t,d=some t→t ∉ xs.flatMap Opd.slot)→xs.mapM (fev (f.put d a))=xs.mapM (fev f)
 | [],_=>rfl
 | x::xs,h=>by
   simp only [List.mapM_cons]
   rw [z4y (fun t ht hm=>h t ht (by simp [hm])),qx (xs:=xs) (fun t ht hm=>h t ht (by simp only [List.flatMap_cons,List.mem_append];exact .inr hm))]
theorem z88 {f:FE} {d:Option Nat} {a:AV} {b:BOp} (h:∀ t,d=some t→t ∉ b.looks):b.tt (f.put d a)=b.tt f:=by
 have h1:∀ t,d=some t→t ∉ b.xs.flatMap Opd.slot:=fun t ht hm=>h t ht (by unfold BOp.looks;exact List.mem_append_left _ hm)
 have hx:b.xs.mapM (fev (f.put d a))=b.xs.mapM (fev f):=qx h1
 have he:b.exec (f.put d a)=b.exec f:=by
  unfold BOp.exec
  split
  ·rw [hx]
  ·split
   ·rename_i c x y hxs
    rw [hxs] at h1
    have g:∀ z ∈ [c,x,y],fev (f.put d a) z=fev f z:=fun z hz=>z4y fun t ht hm=>h1 t ht (List.mem_flatMap.2 ⟨z,hz,hm⟩)
    rw [g c (by simp),g x (by simp),g y (by simp)]
   ·rfl
  ·rw [hx]
  ·rw [hx]
  ·rw [hx]
  ·rw [hx]
  ·rfl
 unfold BOp.tt
 cases hg:b.guard with
 | none=>exact he
 | some p =>
   obtain ⟨g,v⟩:=p
   have:(f.put d a) g=f g:=by
    cases d with
    | none=>rfl
    | some t =>
      have:g≠t:=fun e=>h t rfl (by unfold BOp.looks;rw [hg];simp [e])
      simp [FE.put,this]
   simp only [this,he]
theorem z9p {f:FE} {d e:Option Nat} {a b:AV} (h:∀ t,d=some t→e≠some t):(f.put d a).put e b=(f.put e b).put d a:=by
 cases d with
 | none=>rfl
 | some t =>
   cases e with
   | none=>rfl
   | some u =>
     have:t≠u:=fun e=>h t rfl (by rw [e])
     funext n
     simp only [FE.put]
     (repeat' split) <;> first | rfl | omega
def kindOk (b:BK):TT→Prop
 | .load _ _=>∃ k,b = .load k
 | .alloc _ _=>∃ k,b = .alloc k
 | .loud k _=>b = .loud k
 | .qcall _ _=>∃ k,b = .qcall k
 | _=>True
theorem z2h (b:BOp) (f:FE):kindOk b.kind (b.exec f):=by
 unfold BOp.exec
 split <;> rename_i hk
 ·split
  ·split <;> trivial
  ·trivial
 ·split
  ·split
   ·split <;> trivial
   ·split <;> trivial
   ·trivial
  ·trivial
 ·split
  ·exact ⟨_,hk⟩
  ·trivial
 ·split
  ·split
   ·exact ⟨_,hk⟩
   ·trivial
  ·trivial
 ·split
  ·exact hk
  ·trivial
 ·split
  ·exact ⟨_,hk⟩
  ·trivial
 ·trivial
theorem z5d (b:BOp) (f:FE):kindOk b.kind (b.tt f):=by
 unfold BOp.tt
 split
 ·exact z2h b f
 ·split
  ·split
   ·exact z2h b f
   ·trivial
  ·trivial
  ·trivial
theorem z3v {b:BOp} (h:plainAlloc b=true) (f:FE):∃ z,b.tt f = .alloc (.box z) (fun id => .ptr id 0):=by
 unfold plainAlloc at h
 split at h
 ·rename_i z h1 h2 h3
  exact ⟨z,by simp [BOp.tt,h3,BOp.exec,h1,h2,alv]⟩
 ·cases h
theorem z7h {σ σ':Store} {n:Nat} {p:AV} {cs:List AV} (h:rd σ n p=some cs) (hs:σ.sub σ'):rd σ' n p=some cs:=by
 unfold rd at h ⊢
 split at h
 ·split at h
  ·rename_i ho;rw [hs _ _ ho];exact h
  ·cases h
 ·split at h
  ·rename_i ho;rw [hs _ _ ho];exact h
  ·cases h
 ·exact h
 ·cases h
theorem z3p {σ σ':Store} {m:AV} {es:List (AV×AV)} (h:mpOf σ m=some es) (hs:σ.sub σ'):mpOf σ' m=some es:=by
 unfold mpOf at h ⊢
 split at h
 ·exact h
 ·split at h
  ·rename_i e;rw [hs _ _ e];exact h
  ·cases h
 ·cases h
theorem z0g {σ σ':Store} {esz:Nat} {x:AV} {es:List (List AV)} (h:slc σ esz x=some es) (hs:σ.sub σ'):slc σ' esz x=some es:=by
 unfold slc at h ⊢
 split at h
 ·exact h
 ·exact h
 ·split at h
  ·rename_i e;rw [hs _ _ e];exact h
  ·cases h
 ·cases h
theorem z55 {σ σ':Store} {k:LK} {as:List AV} {a:AV} (h:ldv k as σ=some a) (hs:σ.sub σ'):ldv k as σ'=some a:=by
 unfold ldv at h ⊢
 split at h
 ·obtain ⟨cs,h1,rfl⟩:=Option.map_eq_some_iff.1 h
  simp [z7h h1 hs]
 ·obtain ⟨cs,h1,h2⟩:=z9 h
  rw [z7h h1 hs];exact h2
 ·split at h
  ·rename_i hk
   obtain ⟨es,h1,h2⟩:=z9 h
   simp only [hk,if_true,z3p h1 hs,Option.bind_some];exact h2
  ·cases h
 ·obtain ⟨es,h1,rfl⟩:=Option.map_eq_some_iff.1 h
  simp [z3p h1 hs]
 ·obtain ⟨es,h1,h2⟩:=z9 h
  rw [z0g h1 hs];exact h2
 ·cases h
def Store.one (id:Nat) (o:Obj):Store:=fun i=>if i=id then some o else none
theorem Store.union_one {σ:Store} {id:Nat} {o:Obj} (h:σ id=none):σ.union (Store.one id o)=σ.set id o:=by
 funext i
 simp only [Store.union,Store.one,Store.set]
 by_cases hi:i=id
 ·subst hi;rw [h]
 ·simp only [hi,if_false];cases σ i <;> rfl
theorem zbp {x y:BOp} {f:FE} {σ:Store} {K:AV→AV→Store→Prop} (hm:mayFirst x y=true)
 (h:(x.tt f).run P σ fun a s=>(y.tt f).run P s fun b s'=>K a b s') :
 (y.tt f).run P σ fun b s=>(x.tt f).run P s fun a s'=>K a b s':=by
 have hk:=z5d x f
 have hky:=z5d y f
 cases hx:x.tt f with
 | bad=>rw [hx] at h;exact h.elim
 | const a=>rw [hx] at h;exact h
 | load k as =>
   rw [hx] at h hk
   obtain ⟨k',hk'⟩:=hk
   obtain ⟨a,ha,h⟩:=h
   cases hy:y.tt f with
   | bad=>rw [hy] at h;exact h
   | const b=>rw [hy] at h;exact ⟨a,ha,h⟩
   | load k2 as2=>rw [hy] at h;obtain ⟨b,hb,h⟩:=h;exact ⟨b,hb,a,ha,h⟩
   | alloc o g=>rw [hy] at h;exact fun id hid=>⟨a,z55 ha (Store.sub_set σ id o hid),h id hid⟩
   | qcall g as2=>rw [hy] at h;exact ACalls.mono h fun b s ⟨hs,hK⟩=>⟨hs,a,z55 ha hs,hK⟩
   | loud k2 as2 =>
     rw [hy] at hky h
     cases k2 with
     | nilq neg =>
       simp only [TT.run] at h ⊢
       unfold lwp at h ⊢
       split at h <;> simp only [reduceCtorEq,LO.nilq.injEq] at *
       ·rename_i he;subst he
        unfold nilqwp at h ⊢
        split at h
        ·exact ⟨a,ha,h⟩
        ·exact ⟨⟨a,ha,h.1⟩,⟨a,ha,h.2⟩⟩
        ·exact ⟨a,ha,h⟩
        ·exact ⟨a,ha,h⟩
        ·exact h.elim
     | _=>simp only [kindOk] at hky;simp [mayFirst,hk',hky] at hm
 | alloc o g =>
   rw [hx] at h hk
   obtain ⟨k',hk'⟩:=hk
   have hp:plainAlloc y=true:=by simpa [mayFirst,hk'] using hm
   obtain ⟨z,hz⟩:=z3v hp f
   rw [hz] at h ⊢
   intro id hid id' hid'
   have hne:id'≠id:=fun e=>by subst e;simp at hid'
   rw [Store.set_ne _ _ hne] at hid'
   have:=h id' hid' id (by rw [Store.set_ne _ _ (Ne.symm hne)];exact hid)
   rw [Store.set_comm _ _ _ hne] at this
   exact this
 | qcall g as =>
   rw [hx] at h hk
   obtain ⟨k',hk'⟩:=hk
   have hp:plainAlloc y=true:=by simpa [mayFirst,hk'] using hm
   obtain ⟨z,hz⟩:=z3v hp f
   rw [hz] at h ⊢
   intro id hid
   have hφ:σ.disj (Store.one id (.box z)):=fun i o hi=>by
    simp only [Store.one];split
    ·rename_i e;subst e;rw [hid] at hi;cases hi
    ·rfl
   have hu:=ACalls.frame h hφ
   rw [Store.union_one hid] at hu
   refine hu.mono ?_
   rintro a s ⟨σ',rfl,hd,hsub,hK⟩
   have hid':σ' id=none:=by
    cases hc:σ' id with
    | none=>rfl
    | some o'=>have:=hd id o' hc;simp [Store.one] at this
   rw [Store.union_one hid']
   refine ⟨fun j o hj => ?_,hK id hid'⟩
   by_cases he:j=id
   ·subst he;simpa [Store.set] using hj
   ·rw [Store.set_ne _ _ he] at hj ⊢;exact hsub j o hj
 | loud k as =>
   rw [hx] at hk
   simp only [kindOk] at hk
   simp [mayFirst,hk] at hm
end
end Go.Am
