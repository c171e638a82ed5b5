/- A part of the proof: a logic for calls over plain values, and the functions that the law reaches, each walked once. -/
import Derived.Tactics
import Derived.Orders
import Derived.Laws.CopyRow
import Derived.Laws.Cells
import Derived.Laws.Strings
import Derived.Laws.BytesString
set_option linter.unusedVariables false
set_option linter.unusedSimpArgs false
set_option linter.unusedSectionVars false
namespace Go.Am
inductive AV where
 | bool (b:Bool)
 | int (k:IntKind) (n:Int)
 | str (s:ByteArray)
 | flt (n:Nat)
 | nil
 | ptr (id off:Nat)
 | aptr (id esz i off:Nat)
 | ep (cells:List AV)
 | nils
 | sl (esz:Nat) (es:List (List AV))
 | os (id esz off len:Nat)
 | mp (id:Nat)
 | nilmap
 | fn (f:Nat) (caps:List AV)
 | nilfn
 | agg (cells:List AV)
 | tup (vs:List AV)
 | iface (t:Nat) (v:AV)
 | nilIface
def AV.flat:AV→Bool
 | .agg _ | .tup _=>false
 | _=>true
def AV.cells:AV→List AV
 | .agg cs=>cs
 | v=>[v]
inductive Obj where
 | box (cells:List AV)
 | arr (esz:Nat) (es:List (List AV))
 | map (es:List (AV×AV))
abbrev Store:=Nat→Option Obj
structure Gh where
 ρ:Nat→Option (Nat×Nat)
 I:Nat→Prop
inductive Rels {α β:Type} (R:α→β→Prop):List α→List β→Prop
 | nil:Rels R [] []
 | cons {a b as bs}:R a b→Rels R as bs→Rels R (a::as) (b::bs)
theorem Rels.length {α β:Type} {R:α→β→Prop} {as:List α} {bs:List β} (h:Rels R as bs):as.length=bs.length:=by
 induction h with
 | nil=>rfl
 | cons _ _ ih=>simp [ih]
theorem Rels.get {α β:Type} {R:α→β→Prop} {as:List α} {bs:List β} (h:Rels R as bs) :
 ∀ (k:Nat) (a:α),as[k]? = some a→∃ b,bs[k]? = some b∧R a b:=by
 induction h with
 | nil=>intro k a h;simp at h
 | cons hr _ ih =>
   intro k a h
   cases k with
   | zero=>simp at h;subst h;exact ⟨_,by simp,hr⟩
   | succ k=>simp at h;obtain ⟨b,hb,hr'⟩:=ih k a h;exact ⟨b,by simpa using hb,hr'⟩
theorem Rels.mono {α β:Type} {R R':α→β→Prop} {as:List α} {bs:List β} (h:Rels R as bs) (hr:∀ a b,R a b→R' a b):Rels R' as bs:=by
 induction h with
 | nil=>exact .nil
 | cons h1 _ ih=>exact .cons (hr _ _ h1) ih
theorem Rels.append {α β:Type} {R:α→β→Prop} {as as':List α} {bs bs':List β} (h:Rels R as bs) (h':Rels R as' bs'):Rels R (as++as') (bs++bs'):=by
 induction h with
 | nil=>exact h'
 | cons h1 _ ih=>exact .cons h1 ih
theorem Rels.of_get {α β:Type} {R:α→β→Prop}:∀ {as:List α} {bs:List β},as.length=bs.length →
 (∀ k (h:k<as.length) (h':k<bs.length),R as[k] bs[k])→Rels R as bs
 | [],[],_,_ => .nil
 | a::as,b::bs,hl,h => .cons (h 0 (by simp) (by simp)) (Rels.of_get (by simpa using hl) fun k hk hk'=>h (k+1) (by simpa using hk) (by simpa using hk'))
 | [],_::_,hl,_=>by simp at hl
 | _::_,[],hl,_=>by simp at hl
inductive VRel (G:Gh) (w:World):AV→Value→Prop
 | bool (b):VRel G w (.bool b) (.bool b)
 | int (k n):VRel G w (.int k n) (.int k n)
 | str (s):VRel G w (.str s) (.string s)
 | flt (n):VRel G w (.flt n) (.float .f64 n)
 | nil:VRel G w .nil (.pointer none)
 | ptr {id off b base} (h:G.ρ id=some (b,base)):VRel G w (.ptr id off) (.pointer (some ⟨b,base+off,none⟩))
 | aptr {id esz i off b base} (h:G.ρ id=some (b,base)) :
    VRel G w (.aptr id esz i off) (.pointer (some ⟨b,base+(i*esz+off),none⟩))
 | ep {cells b off} (vs:Nat→Value) (hb:G.I b) (hf:∀ c ∈ cells,c.flat=true)
    (hc:∀ k,k<cells.length→w.cell? ⟨b,off+k,none⟩=some (vs k))
    (hv:∀ k (h:k<cells.length),VRel G w cells[k] (vs k)):VRel G w (.ep cells) (.pointer (some ⟨b,off,none⟩))
 | nils:VRel G w .nils (.slice none 0 0)
 | sl0 {esz a c}:VRel G w (.sl esz []) (.slice a 0 c)
 | sl {esz es b off c} (vs:Nat→Nat→Value) (hb:G.I b) (hne:es≠[]) (hcap:es.length≤c)
    (hl:∀ cs ∈ es,cs.length=esz) (hf:∀ cs ∈ es,∀ x ∈ cs,x.flat=true)
    (hc:∀ i j,i<es.length→j<esz→w.cell? ⟨b,off+(i*esz+j),none⟩=some (vs i j))
    (hv:∀ i j (hi:i<es.length) (hj:j<(es[i]'hi:List AV).length),VRel G w ((es[i]'hi:List AV)[j]'hj) (vs i j)) :
    VRel G w (.sl esz es) (.slice (some ⟨b,off,none⟩) es.length c)
 | os {id esz off len b base c} (h:G.ρ id=some (b,base)) (hlen:len≤c)
    (hs:∃ ty n,w.shape? b=some (ty,n)∧base+(off+c)*esz≤n) :
    VRel G w (.os id esz off len) (.slice (some ⟨b,base+off*esz,none⟩) len c)
 | os0 {id esz off b base x} (h:G.ρ id=some (b,base)):VRel G w (.os id esz off 0) (.slice (some x) 0 0)
 | mp {id b base} (h:G.ρ id=some (b,base)):VRel G w (.mp id) (.map (some b))
 | nilmap:VRel G w .nilmap (.map none)
 | fn {f caps} {cs:List Value} (hl:caps.length=cs.length) (hv:∀ k (h:k<caps.length) (h':k<cs.length),VRel G w caps[k] cs[k]) :
    VRel G w (.fn f caps) (.func (.func f) #[] cs.toArray)
 | nilfn:VRel G w .nilfn .nilFunc
 | agg {cells} {cs:List Value} (hl:cells.length=cs.length) (hf:∀ c ∈ cells,c.flat=true)
    (hv:∀ k (h:k<cells.length) (h':k<cs.length),VRel G w cells[k] cs[k]):VRel G w (.agg cells) (.agg cs.toArray)
 | tup {vs} {cs:List Value} (hl:vs.length=cs.length)
    (hv:∀ k (h:k<vs.length) (h':k<cs.length),VRel G w vs[k] cs[k]):VRel G w (.tup vs) (.tuple cs.toArray)
 | iface {t a v} (h:VRel G w a v):VRel G w (.iface t a) (.iface t v)
 | nilIface:VRel G w .nilIface .nilIface
theorem VRel.oneCell {G:Gh} {w:World} {a:AV} {v:Value} (h:VRel G w a v) (hf:a.flat=true):v.oneCell'=true:=by
 cases h <;> first | rfl | (simp [AV.flat] at hf)
theorem VRel.cells {G:Gh} {w:World} {a:AV} {v:Value} (h:VRel G w a v) (hf:a.flat=true):v.cells = #[v]∧a.cells=[a]:=by
 cases h <;> first | exact ⟨rfl,rfl⟩ | (simp [AV.flat] at hf)
inductive ORel (G:Gh) (w:World) (b base:Nat):Obj→Prop
 | box {cells} {cs:Array Value} {ty} (hb:w.heap[b]? = some (.cells cs ty (0,0))) (hs:base+cells.length≤cs.size)
    (hf:∀ c ∈ cells,c.flat=true)
    (hv:∀ k (h:k<cells.length),VRel G w cells[k] (cs.getD (base+k) undef)):ORel G w b base (.box cells)
 | arr {esz es} {cs:Array Value} {ty} (hb:w.heap[b]? = some (.cells cs ty (0,0))) (hs:base+es.length*esz≤cs.size)
    (hl:∀ e ∈ es,e.length=esz) (hf:∀ e ∈ es,∀ c ∈ e,c.flat=true)
    (hv:∀ i j (hi:i<es.length) (hj:j<(es[i]'hi:List AV).length),VRel G w ((es[i]'hi:List AV)[j]'hj) (cs.getD (base+(i*esz+j)) undef)):ORel G w b base (.arr esz es)
 | map {es} {ents:Array MapEntry} {clock} (hb:w.heap[b]? = some (.map ents clock)) (h0:base=0)
    (hl:es.length=ents.size)
    (hv:∀ k (h:k<es.length) (h':k<ents.size),VRel G w es[k].1 ents[k].key∧VRel G w es[k].2 ents[k].val)
    (hborn:∀ k (h:k<ents.size),ents[k].born<clock) (hinj:∀ i j (hi:i<ents.size) (hj:j<ents.size),ents[i].born=ents[j].born→i=j) :
    ORel G w b base (.map es)
structure Sim (G:Gh) (σ:Store) (w:World):Prop where
 lt:∀ b,G.I b→b<w.heap.size
 fin:∃ N,∀ id,N≤id→G.ρ id=none
 blk:∀ id b base,G.ρ id=some (b,base)→b<w.heap.size
 used:∀ id o,σ id=some o→∃ b base,G.ρ id=some (b,base)∧ORel G w b base o
 inj:∀ i j oi oj b base base',σ i=some oi→σ j=some oj→G.ρ i=some (b,base)→G.ρ j=some (b,base')→i=j
 apart:∀ i o b base,σ i=some o→G.ρ i=some (b,base)→¬ G.I b
def own (G:Gh) (σ:Store) (b:Nat):Prop:=∃ id o base,σ id=some o∧G.ρ id=some (b,base)
structure Ext (G:Gh) (σ:Store) (w:World) (G':Gh) (σ':Store) (w':World):Prop where
 tape:w'.tape=w.tape
 os:w'.os=w.os
 output:w'.output=w.output
 size:w.heap.size≤w'.heap.size
 keep:∀ b,b<w.heap.size→¬ own G σ b→w'.heap[b]? = w.heap[b]?
 shape:∀ b,b<w.heap.size→w'.shape? b=w.shape? b
 ρ:∀ id x,G.ρ id=some x→G'.ρ id=some x
 I:∀ b,G.I b→G'.I b
 newI:∀ b,G'.I b→G.I b∨own G σ b∨w.heap.size≤b
 newOwn:∀ b,own G' σ' b→own G σ b∨w.heap.size≤b
 newId:∀ id o,σ' id=some o→(∃ o',σ id=some o')∨G.ρ id=none
theorem Ext.refl (G:Gh) (σ:Store) (w:World):Ext G σ w G σ w :=
 ⟨rfl,rfl,rfl,Nat.le_refl _,fun _ _ _=>rfl,fun _ _=>rfl,fun _ _ h=>h,fun _ h=>h,fun _ h => .inl h,fun _ h => .inl h,fun _ o h => .inl ⟨o,h⟩⟩
theorem Ext.trans {G G1 G2:Gh} {σ σ1 σ2:Store} {w w1 w2:World} (h:Ext G σ w G1 σ1 w1) (h':Ext G1 σ1 w1 G2 σ2 w2):Ext G σ w G2 σ2 w2 where
 tape:=h'.tape.trans h.tape
 os:=h'.os.trans h.os
 output:=h'.output.trans h.output
 size:=Nat.le_trans h.size h'.size
 keep b hb hn:=by
  have h1:¬ own G1 σ1 b:=fun ho=>(h.newOwn b ho).elim hn (fun hs=>by omega)
  rw [h'.keep b (Nat.lt_of_lt_of_le hb h.size) h1,h.keep b hb hn]
 shape b hb:=by rw [h'.shape b (Nat.lt_of_lt_of_le hb h.size),h.shape b hb]
 ρ id x hx:=h'.ρ id x (h.ρ id x hx)
 I b hb:=h'.I b (h.I b hb)
 newI b hb:=by
  rcases h'.newI b hb with h1 | h1 | h1
  ·exact h.newI b h1
  ·exact (h.newOwn b h1).elim (fun x => .inr (.inl x)) (fun x => .inr (.inr x))
  ·exact .inr (.inr (Nat.le_trans h.size h1))
 newOwn b hb:=by
  rcases h'.newOwn b hb with h1 | h1
  ·exact h.newOwn b h1
  ·exact .inr (Nat.le_trans h.size h1)
 newId id o ho:=by
  rcases h'.newId id o ho with ⟨o',h1⟩ | h1
  ·exact h.newId id o' h1
  ·cases hx:G.ρ id with
   | none=>exact .inr rfl
   | some x=>rw [h.ρ id x hx] at h1;cases h1
theorem qh {w w':World} {b:Nat} (h:w'.heap[b]? = w.heap[b]?) (o:Nat):w'.cell? ⟨b,o,none⟩=w.cell? ⟨b,o,none⟩:=by
 simp only [World.cell?,h]
theorem VRel.grow {G G':Gh} {w w':World} (hI:∀ b,G.I b→G'.I b) (hρ:∀ id x,G.ρ id=some x→G'.ρ id=some x)
 (hk:∀ b,G.I b→w'.heap[b]? = w.heap[b]?) (hsh:∀ b x,w.shape? b=some x→w'.shape? b=some x)
 {a:AV} {v:Value} (h:VRel G w a v):VRel G' w' a v:=by
 induction h with
 | bool b=>exact .bool b
 | int k n=>exact .int k n
 | str s=>exact .str s
 | flt n=>exact .flt n
 | nil=>exact .nil
 | ptr h=>exact .ptr (hρ _ _ h)
 | aptr h=>exact .aptr (hρ _ _ h)
 | ep vs hb hf hc hv ih=>exact .ep vs (hI _ hb) hf (fun k hk'=>by rw [qh (hk _ hb)];exact hc k hk') ih
 | nils=>exact .nils
 | sl0=>exact .sl0
 | sl vs hb hne hcap hl hf hc hv ih=>exact .sl vs (hI _ hb) hne hcap hl hf (fun i j hi hj=>by rw [qh (hk _ hb)];exact hc i j hi hj) ih
 | os h hlen hs =>
   obtain ⟨ty,n,h1,h2⟩:=hs
   exact .os (hρ _ _ h) hlen ⟨ty,n,hsh _ _ h1,h2⟩
 | os0 h=>exact .os0 (hρ _ _ h)
 | mp h=>exact .mp (hρ _ _ h)
 | nilmap=>exact .nilmap
 | fn hl _ ih=>exact .fn hl ih
 | nilfn=>exact .nilfn
 | agg hl hf _ ih=>exact .agg hl hf ih
 | tup hl _ ih=>exact .tup hl ih
 | iface _ ih=>exact .iface ih
 | nilIface=>exact .nilIface
theorem z06 {w:World} {b:Nat} {x:TypeId×Nat} (h:w.shape? b=some x):b<w.heap.size:=by
 unfold World.shape? at h
 cases hb:w.heap[b]? with
 | none=>rw [hb] at h;cases h
 | some o =>
   rcases Nat.lt_or_ge b w.heap.size with h' | h'
   ·exact h'
   ·simp [h'] at hb
theorem Sim.notOwn {G:Gh} {σ:Store} {w:World} (hs:Sim G σ w) {b:Nat} (hb:G.I b):¬ own G σ b:=by
 rintro ⟨id,o,base,h1,h2⟩
 exact hs.apart id o b base h1 h2 hb
theorem Ext.vrel {G G':Gh} {σ σ':Store} {w w':World} (hx:Ext G σ w G' σ' w') (hs:Sim G σ w) {a:AV} {v:Value} (h:VRel G w a v):VRel G' w' a v :=
 h.grow hx.I hx.ρ (fun b hb=>hx.keep b (hs.lt b hb) (hs.notOwn hb)) (fun b x hb=>by rw [hx.shape b (z06 hb)];exact hb)
theorem VRel.heap {G:Gh} {w w':World} (hw:w'.heap=w.heap) {a:AV} {v:Value} (h:VRel G w a v):VRel G w' a v :=
 h.grow (fun _ h=>h) (fun _ _ h=>h) (fun b _=>by rw [hw]) (fun b x hb=>by unfold World.shape? at *;rw [hw];exact hb)
theorem ORel.grow {G G':Gh} {w w':World} {b base:Nat} {o:Obj} (h:ORel G w b base o) (hb':w'.heap[b]? = w.heap[b]?)
 (hv:∀ a v,VRel G w a v→VRel G' w' a v):ORel G' w' b base o:=by
 cases h with
 | box hb hs hf hr=>exact .box (hb'.trans hb) hs hf fun k h=>hv _ _ (hr k h)
 | arr hb hs hl hf hr=>exact .arr (hb'.trans hb) hs hl hf fun i j hi hj=>hv _ _ (hr i j hi hj)
 | map hb h0 hl hr h1 h2=>exact .map (hb'.trans hb) h0 hl (fun k h h'=>⟨hv _ _ (hr k h h').1,hv _ _ (hr k h h').2⟩) h1 h2
def Store.sub (σ σ':Store):Prop:=∀ id o,σ id=some o→σ' id=some o
theorem Store.sub_refl (σ:Store):σ.sub σ:=fun _ _ h=>h
theorem Store.sub_trans {a b c:Store} (h:a.sub b) (h':b.sub c):a.sub c:=fun id o ho=>h' id o (h id o ho)
theorem Sim.sub {G:Gh} {σ σ':Store} {w:World} (h:Sim G σ' w) (hs:σ.sub σ'):Sim G σ w where
 lt:=h.lt
 fin:=h.fin
 blk:=h.blk
 used id o ho:=h.used id o (hs id o ho)
 inj i j oi oj b base base' hi hj:=h.inj i j oi oj b base base' (hs i oi hi) (hs j oj hj)
 apart i o b base hi:=h.apart i o b base (hs i o hi)
theorem z0e {G:Gh} {σ σ':Store} {b:Nat} (hs:σ.sub σ') (h:own G σ b):own G σ' b:=by
 obtain ⟨id,o,base,h1,h2⟩:=h
 exact ⟨id,o,base,hs id o h1,h2⟩
theorem Ext.sub {G G':Gh} {σ σ' σ'':Store} {w w':World} (h:Ext G σ w G' σ' w') (hs:σ''.sub σ'):Ext G σ w G' σ'' w' :=
 { h with newOwn:=fun b hb=>h.newOwn b (z0e hs hb),newId:=fun id o ho=>h.newId id o (hs id o ho) }
def Store.set (σ:Store) (i:Nat) (o:Obj):Store:=fun j=>if j=i then some o else σ j
def Store.del (σ:Store) (i:Nat):Store:=fun j=>if j=i then none else σ j
def Store.union (σ φ:Store):Store:=fun j=>match σ j with | some o=>some o | none=>φ j
def Store.disj (σ φ:Store):Prop:=∀ id o,σ id=some o→φ id=none
@[simp] theorem Store.set_same (σ:Store) (i:Nat) (o:Obj):σ.set i o i=some o:=by simp [Store.set]
theorem Store.set_ne (σ:Store) {i j:Nat} (o:Obj) (h:j≠i):σ.set i o j=σ j:=by simp [Store.set,h]
@[simp] theorem Store.del_same (σ:Store) (i:Nat):σ.del i i=none:=by simp [Store.del]
theorem Store.del_ne (σ:Store) {i j:Nat} (h:j≠i):σ.del i j=σ j:=by simp [Store.del,h]
@[simp] theorem Store.set_set (σ:Store) (i:Nat) (o o':Obj):(σ.set i o).set i o'=σ.set i o':=by
  funext j;simp only [Store.set];split <;> rfl
theorem Store.set_comm (σ:Store) {i j:Nat} (o o':Obj) (h:i≠j):(σ.set i o).set j o'=(σ.set j o').set i o:=by
 funext k;simp only [Store.set];(repeat' split) <;> first | rfl | omega
theorem Store.sub_set (σ:Store) (i:Nat) (o:Obj) (h:σ i=none):σ.sub (σ.set i o):=by
 intro id x hx
 by_cases he:id=i
 ·subst he;rw [h] at hx;cases hx
 ·rw [Store.set_ne _ _ he];exact hx
theorem Store.sub_del (σ:Store) (i:Nat):(σ.del i).sub σ:=by
 intro id x hx
 by_cases he:id=i
 ·subst he;simp at hx
 ·rwa [Store.del_ne _ he] at hx
theorem Sim.fresh {G:Gh} {σ:Store} {w:World} (h:Sim G σ w):∃ id,G.ρ id=none∧σ id=none:=by
 obtain ⟨N,hN⟩:=h.fin
 refine ⟨N,hN N (Nat.le_refl _),?_⟩
 cases hσ:σ N with
 | none=>rfl
 | some o =>
   obtain ⟨b,base,h1,_⟩:=h.used N o hσ
   rw [hN N (Nat.le_refl _)] at h1;cases h1
theorem Sim.heap {G:Gh} {σ:Store} {w w':World} (h:Sim G σ w) (hw:w'.heap=w.heap):Sim G σ w' where
 lt b hb:=by rw [hw];exact h.lt b hb
 fin:=h.fin
 blk id b base hb:=by rw [hw];exact h.blk id b base hb
 used id o ho:=by
  obtain ⟨b,base,h1,h2⟩:=h.used id o ho
  exact ⟨b,base,h1,h2.grow (by rw [hw]) fun a v hv=>hv.heap hw⟩
 inj:=h.inj
 apart:=h.apart
theorem Sim.alloc {G:Gh} {σ:Store} {w:World} (h:Sim G σ w) {id:Nat} (hρ:G.ρ id=none) (hσ:σ id=none) (ob:Go.Obj) {o:Obj}
 (ho:∀ G':Gh,(∀ i x,G.ρ i=some x→G'.ρ i=some x)→(∀ b,G.I b→G'.I b)→G'.ρ id=some (w.heap.size,0)→ORel G' (w.alloc ob) w.heap.size 0 o) :
 ∃ G',Ext G σ w G' (σ.set id o) (w.alloc ob)∧Sim G' (σ.set id o) (w.alloc ob)∧G'.ρ id=some (w.heap.size,0):=by
 let G':Gh:=⟨fun i=>if i=id then some (w.heap.size,0) else G.ρ i,G.I⟩
 have hρ':∀ i x,G.ρ i=some x→G'.ρ i=some x:=fun i x hx=>by
  have:i≠id:=fun e=>by subst e;rw [hρ] at hx;cases hx
  simp [G',this,hx]
 have hid:G'.ρ id=some (w.heap.size,0):=by simp [G']
 have hne:∀ i o,σ i=some o→i≠id:=fun i o hi e=>by subst e;rw [hσ] at hi;cases hi
 have hG:∀ i,i≠id→G'.ρ i=G.ρ i:=fun i hi=>by simp [G',hi]
 have hheap:∀ b,b<w.heap.size→(w.alloc ob).heap[b]? = w.heap[b]? := fun b hb=>by
  show (w.heap.push ob)[b]? = w.heap[b]?
  rw [Array.getElem?_push,if_neg (Nat.ne_of_lt hb)]
 have hshape:∀ b,b<w.heap.size→(w.alloc ob).shape? b=w.shape? b:=fun b hb=>by simp only [World.shape?,hheap b hb]
 have hext:Ext G σ w G' (σ.set id o) (w.alloc ob) :=
  { tape:=rfl,os:=rfl,output:=rfl,size:=by simp
    keep:=fun b hb _=>hheap b hb
    shape:=hshape
    ρ:=hρ',I:=fun _ h=>h,newI:=fun _ h => .inl h
    newOwn:=fun b ⟨i,o',base,h1,h2⟩=>by
     by_cases hi:i=id
     ·subst hi;rw [hid] at h2;cases h2;exact .inr (Nat.le_refl _)
     ·rw [Store.set_ne _ _ hi] at h1;rw [hG i hi] at h2;exact .inl ⟨i,o',base,h1,h2⟩
    newId:=fun i o' h1=>by
     by_cases hi:i=id
     ·subst hi;exact .inr hρ
     ·rw [Store.set_ne _ _ hi] at h1;exact .inl ⟨o',h1⟩ }
 refine ⟨G',hext,?_,hid⟩
 have hv:∀ a v,VRel G w a v→VRel G' (w.alloc ob) a v:=fun a v hv=>hext.vrel h hv
 exact
  { lt:=fun b hb=>by have:=h.lt b hb;simp;omega
    fin:=by
     obtain ⟨N,hN⟩:=h.fin
     refine ⟨max N (id+1),fun i hi => ?_⟩
     rw [hG i (by omega)];exact hN i (by omega)
    blk:=fun i b base hb=>by
     by_cases hi:i=id
     ·subst hi;rw [hid] at hb;cases hb;simp
     ·rw [hG i hi] at hb;have:=h.blk i b base hb;simp;omega
    used:=fun i o' h1=>by
     by_cases hi:i=id
     ·subst hi;simp at h1;subst h1;exact ⟨_,_,hid,ho G' hρ' (fun _ h=>h) hid⟩
     ·rw [Store.set_ne _ _ hi] at h1
      obtain ⟨b,base,h2,h3⟩:=h.used i o' h1
      exact ⟨b,base,hρ' _ _ h2,h3.grow (hheap b (h.blk i b base h2)) hv⟩
    inj:=fun i j oi oj b base base' h1 h2 h3 h4=>by
     by_cases hi:i=id <;> by_cases hj:j=id
     ·rw [hi,hj]
     ·subst hi;rw [hid] at h3;cases h3;rw [hG j hj] at h4;have:=h.blk _ _ _ h4;omega
     ·subst hj;rw [hid] at h4;cases h4;rw [hG i hi] at h3;have:=h.blk _ _ _ h3;omega
     ·rw [Store.set_ne _ _ hi] at h1;rw [Store.set_ne _ _ hj] at h2;rw [hG i hi] at h3;rw [hG j hj] at h4
      exact h.inj i j oi oj b base base' h1 h2 h3 h4
    apart:=fun i o' b base h1 h2=>by
     by_cases hi:i=id
     ·subst hi;rw [hid] at h2;cases h2;intro hb;have:=h.lt _ hb;omega
     ·rw [Store.set_ne _ _ hi] at h1;rw [hG i hi] at h2;exact h.apart i o' b base h1 h2 }
theorem Sim.adopt {G:Gh} {σ:Store} {w w':World} (h:Sim G σ w) {id:Nat} (hρ:G.ρ id=none) (hσ:σ id=none) {g:Nat} (hg:w.heap.size≤g) (hg':g<w'.heap.size) (hsize:w.heap.size≤w'.heap.size)
 (htape:w'.tape=w.tape) (hos:w'.os=w.os) (hout:w'.output=w.output) (hheap:∀ b,b<w.heap.size→w'.heap[b]? = w.heap[b]?) {o:Obj}
 (ho:∀ G':Gh,(∀ i x,G.ρ i=some x→G'.ρ i=some x)→(∀ b,G.I b→G'.I b)→(∀ a v,VRel G w a v→VRel G' w' a v)→ORel G' w' g 0 o) :
 ∃ G',Ext G σ w G' (σ.set id o) w'∧Sim G' (σ.set id o) w'∧G'.ρ id=some (g,0):=by
 let G':Gh:=⟨fun i=>if i=id then some (g,0) else G.ρ i,G.I⟩
 have hρ':∀ i x,G.ρ i=some x→G'.ρ i=some x:=fun i x hx=>by
  have:i≠id:=fun e=>by subst e;rw [hρ] at hx;cases hx
  simp [G',this,hx]
 have hid:G'.ρ id=some (g,0):=by simp [G']
 have hne:∀ i o,σ i=some o→i≠id:=fun i o hi e=>by subst e;rw [hσ] at hi;cases hi
 have hG:∀ i,i≠id→G'.ρ i=G.ρ i:=fun i hi=>by simp [G',hi]
 have hshape:∀ b,b<w.heap.size→w'.shape? b=w.shape? b:=fun b hb=>by simp only [World.shape?,hheap b hb]
 have hext:Ext G σ w G' (σ.set id o) w' :=
  { tape:=htape,os:=hos,output:=hout,size:=hsize
    keep:=fun b hb _=>hheap b hb
    shape:=hshape
    ρ:=hρ',I:=fun _ h=>h,newI:=fun _ h => .inl h
    newOwn:=fun b ⟨i,o',base,h1,h2⟩=>by
     by_cases hi:i=id
     ·subst hi;rw [hid] at h2;cases h2;exact .inr hg
     ·rw [Store.set_ne _ _ hi] at h1;rw [hG i hi] at h2;exact .inl ⟨i,o',base,h1,h2⟩
    newId:=fun i o' h1=>by
     by_cases hi:i=id
     ·subst hi;exact .inr hρ
     ·rw [Store.set_ne _ _ hi] at h1;exact .inl ⟨o',h1⟩ }
 refine ⟨G',hext,?_,hid⟩
 have hv:∀ a v,VRel G w a v→VRel G' w' a v:=fun a v hv=>hext.vrel h hv
 exact
  { lt:=fun b hb=>by have:=h.lt b hb;omega
    fin:=by
     obtain ⟨N,hN⟩:=h.fin
     refine ⟨max N (id+1),fun i hi => ?_⟩
     rw [hG i (by omega)];exact hN i (by omega)
    blk:=fun i b base hb=>by
     by_cases hi:i=id
     ·subst hi;rw [hid] at hb;cases hb;exact hg'
     ·rw [hG i hi] at hb;have:=h.blk i b base hb;omega
    used:=fun i o' h1=>by
     by_cases hi:i=id
     ·subst hi;simp at h1;subst h1;exact ⟨_,_,hid,ho G' hρ' (fun _ h=>h) hv⟩
     ·rw [Store.set_ne _ _ hi] at h1
      obtain ⟨b,base,h2,h3⟩:=h.used i o' h1
      exact ⟨b,base,hρ' _ _ h2,h3.grow (hheap b (h.blk i b base h2)) hv⟩
    inj:=fun i j oi oj b base base' h1 h2 h3 h4=>by
     by_cases hi:i=id <;> by_cases hj:j=id
     ·rw [hi,hj]
     ·subst hi;rw [hid] at h3;cases h3;rw [hG j hj] at h4;have:=h.blk _ _ _ h4;omega
     ·subst hj;rw [hid] at h4;cases h4;rw [hG i hi] at h3;have:=h.blk _ _ _ h3;omega
     ·rw [Store.set_ne _ _ hi] at h1;rw [Store.set_ne _ _ hj] at h2;rw [hG i hi] at h3;rw [hG j hj] at h4
      exact h.inj i j oi oj b base base' h1 h2 h3 h4
    apart:=fun i o' b base h1 h2=>by
     by_cases hi:i=id
     ·subst hi;rw [hid] at h2;cases h2;intro hb;have:=h.lt _ hb;omega
     ·rw [Store.set_ne _ _ hi] at h1;rw [hG i hi] at h2;exact h.apart i o' b base h1 h2 }
end Go.Am
namespace Go.Am
inductive Opd where
 | t (n:Nat)
 | c (a:AV)
def AV.ofCell:Value→Option AV
 | .bool b=>some (.bool b)
 | .int k n=>some (.int k n)
 | .string s=>some (.str s)
 | .float .f64 n=>some (.flt n)
 | .pointer none=>some .nil
 | .slice none 0 0=>some .nils
 | .map none=>some .nilmap
 | .nilFunc=>some .nilfn
 | .nilIface=>some .nilIface
 | _=>none
def AV.ofValue:Value→Option AV
 | .agg cs=>(cs.toList.mapM AV.ofCell).map .agg
 | v=>AV.ofCell v
theorem we {G:Gh} {w:World} {v:Value} {a:AV} (h:AV.ofCell v=some a):VRel G w a v∧a.flat=true:=by
 unfold AV.ofCell at h
 split at h <;> first | (cases h;exact ⟨by constructor,rfl⟩) | cases h
theorem x8 {α β:Type} {f:α→Option β}:∀ {l:List α} {r:List β},l.mapM f=some r →
 l.length=r.length∧∀ k (h:k<l.length) (h':k<r.length),f l[k]=some r[k]
 | [],r,h=>by simp at h;subst h;exact ⟨rfl,fun k h=>by simp at h⟩
 | a::l,r,h=>by
   simp only [List.mapM_cons,Option.bind_eq_bind,Option.pure_def] at h
   cases ha:f a with
   | none=>simp [ha] at h
   | some b =>
     cases hl:l.mapM f with
     | none=>simp [ha,hl] at h
     | some bs =>
       simp [ha,hl] at h
       subst h
       obtain ⟨h1,h2⟩:=x8 hl
       refine ⟨by simp [h1],fun k hk hk' => ?_⟩
       cases k with
       | zero=>exact ha
       | succ k=>exact h2 k (by simpa using hk) (by simpa using hk')
theorem z0p {G:Gh} {w:World} {v:Value} {a:AV} (h:AV.ofValue v=some a):VRel G w a v:=by
 unfold AV.ofValue at h
 split at h
 ·rename_i cs
  cases hm:cs.toList.mapM AV.ofCell with
  | none=>simp [hm] at h
  | some l =>
    simp [hm] at h
    subst h
    obtain ⟨h1,h2⟩:=x8 hm
    have:=VRel.agg (G:=G) (w:=w) (cells:=l) (cs:=cs.toList) (by simpa using h1.symm)
     (fun c hc=>by
       obtain ⟨k,hk,rfl⟩:=List.getElem_of_mem hc
       exact (we (G:=G) (w:=w) (h2 k (by rw [h1];exact hk) hk)).2)
     (fun k hk hk'=>(we (h2 k hk' hk)).1)
    simpa using this
 ·exact (we h).1
def compOpd:Operand→Option Opd
 | .tmp t=>some (.t t)
 | .const v=>(AV.ofValue v).map .c
 | .func f=>some (.c (.fn f []))
 | .global _=>none
inductive PK where
 | mov | nilchk
 | bin (op:BinOp)
 | eqb (neg:Bool) | eqnil (neg:Bool) (x:Bool) | eq2 (neg:Bool) (k1 k2:IntKind)
 | not | neg | cpl
 | conv (k:IntKind)
 | fld (off:Nat)
 | fldv (off sz:Nat) (agg:Bool)
 | idx (esz:Nat)
 | idxa (len esz:Nat)
 | idxv (len esz:Nat) (agg:Bool)
 | idxs
 | cap
 | eqs (neg:Bool)
 | len
 | slice (esz:Nat) (lo hi:Bool)
 | build (zeros:List AV) (places:List (Nat×Nat))
 | ext (i:Nat)
 | mkfn (f:Nat)
 | mkif (t:Nat)
 | minmax (mx:Bool)
def bitInt (op:BinOp) (k:IntKind) (x y:Int):Int :=
 let a:=BitVec.ofInt k.bits x
 let b:=BitVec.ofInt k.bits y
 match op with
 | .and=>k.wrap (a &&& b).toNat
 | .or=>k.wrap (a ||| b).toNat
 | .xor=>k.wrap (a ^^^ b).toNat
 | _=>k.wrap (a &&& ~~~b).toNat
def shlInt (k:IntKind) (x y:Int):Int:=k.wrap (x*2 ^ (min y.toNat k.bits))
def shrInt (k:IntKind) (x y:Int):Int:=x.fdiv (2 ^ (min y.toNat k.bits))
def binInt:BinOp→IntKind→Int→Int→Option AV
 | .add,k,x,y=>some (.int k (k.wrap (x+y)))
 | .sub,k,x,y=>some (.int k (k.wrap (x - y)))
 | .mul,k,x,y=>some (.int k (k.wrap (x*y)))
 | .quo,k,x,y=>if y=0 then none else some (.int k (k.wrap (x.tdiv y)))
 | .rem,k,x,y=>if y=0 then none else some (.int k (x.tmod y))
 | .and,k,x,y=>some (.int k (bitInt .and k x y))
 | .or,k,x,y=>some (.int k (bitInt .or k x y))
 | .xor,k,x,y=>some (.int k (bitInt .xor k x y))
 | .andNot,k,x,y=>some (.int k (bitInt .andNot k x y))
 | .eql,_,x,y=>some (.bool (decide (x=y)))
 | .neq,_,x,y=>some (.bool (!decide (x=y)))
 | .lss,_,x,y=>some (.bool (decide (x<y)))
 | .leq,_,x,y=>some (.bool (decide (x≤y)))
 | .gtr,_,x,y=>some (.bool (decide (y<x)))
 | .geq,_,x,y=>some (.bool (decide (y≤x)))
 | _,_,_,_=>none
def pBin:BinOp→AV→AV→Option AV
 | .shl,.int k x,.int _ y=>if y<0 then none else some (.int k (shlInt k x y))
 | .shr,.int k x,.int _ y=>if y<0 then none else some (.int k (shrInt k x y))
 | op,.int k x,.int k' y=>if k=k' then binInt op k x y else none
 | _,_,_=>none
def isNilS:AV→Option Bool
 | .nils=>some true
 | .sl _ es=>if es=[] then none else some false
 | .os ..=>some false
 | _=>none
def isNilP:AV→Option Bool
 | .nil=>some true
 | .ptr .. | .aptr .. | .ep _=>some false
 | _=>none
def pEq2 (neg:Bool) (k1 k2:IntKind):AV→AV→Option AV
 | .agg [.int a1 x1,.int a2 x2],.agg [.int b1 y1,.int b2 y2] =>
   if a1=k1∧b1=k1∧a2=k2∧b2=k2 then some (.bool (if neg then !decide (x1=y1∧x2=y2) else decide (x1=y1∧x2=y2))) else none
 | _,_=>none
def pFld (off:Nat):AV→Option AV
 | .ptr id o=>some (.ptr id (o+off))
 | .aptr id esz i o=>some (.aptr id esz i (o+off))
 | .ep cells=>some (.ep (cells.drop off))
 | _=>none
def pPart (off sz:Nat) (agg:Bool) (cells:List AV):Option AV :=
 if agg then (if off+sz≤cells.length then some (.agg ((cells.drop off).take sz)) else none) else cells[off]?
def pFldv (off sz:Nat) (agg:Bool):AV→Option AV
 | .agg cells=>pPart off sz agg cells
 | _=>none
def pIdx (esz:Nat):AV→AV→Option AV
 | .sl esz' es,.int _ m=>if esz'=esz∧0≤m then (es[m.toNat]?).map .ep else none
 | .os id esz' off len,.int _ m=>if esz'=esz∧0≤m∧m<(len:Int) then some (.aptr id esz (off+m.toNat) 0) else none
 | _,_=>none
def pIdxa (len esz:Nat):AV→AV→Option AV
 | .ptr id o,.int _ m=>if 0≤m∧m<(len:Int) then some (.ptr id (o+m.toNat*esz)) else none
 | .aptr id sz i o,.int _ m=>if 0≤m∧m<(len:Int) then some (.aptr id sz i (o+m.toNat*esz)) else none
 | .ep cells,.int _ m=>if 0≤m∧m<(len:Int) then some (.ep (cells.drop (m.toNat*esz))) else none
 | _,_=>none
def pIdxv (len esz:Nat) (agg:Bool):AV→AV→Option AV
 | .agg cells,.int _ m=>if 0≤m∧m<(len:Int) then pPart (m.toNat*esz) esz agg cells else none
 | _,_=>none
def pIdxs:AV→AV→Option AV
 | .str s,.int _ m=>if 0≤m then (s[m.toNat]?).map fun b => .int .u8 b.toNat else none
 | _,_=>none
def pEqs (neg:Bool):AV→AV→Option AV
 | .str a,.str b=>some (.bool (if neg then !(a.data.toList ==b.data.toList) else a.data.toList ==b.data.toList))
 | _,_=>none
def pCap:AV→Option AV
 | .nils=>some (.int .i64 0)
 | _=>none
def pLen:AV→Option AV
 | .sl _ es=>some (.int .i64 es.length)
 | .os _ _ _ len=>some (.int .i64 len)
 | .nils=>some (.int .i64 0)
 | _=>none
def pSlice (esz:Nat) (x:AV) (l:Int) (h:Option Int):Option AV :=
 match x with
 | .sl esz' es =>
   let h:=h.getD es.length
   if esz'=esz∧0≤l∧l≤h∧h≤(es.length:Int) then some (.sl esz ((es.take h.toNat).drop l.toNat)) else none
 | .os id esz' off len =>
   let h:=h.getD len
   if esz'=esz∧0≤l∧l≤h∧h≤(len:Int) then some (.os id esz (off+l.toNat) (h.toNat - l.toNat)) else none
 | .nils =>
   let h:=h.getD 0
   if 0≤l∧l≤h∧h≤0 then some .nils else none
 | _=>none
def splice:Nat→List AV→List AV→Option (List AV)
 | 0,[],cs=>some cs
 | 0,v::vs,_::cs=>(splice 0 vs cs).map (v :: ·)
 | 0,_::_,[]=>none
 | n+1,vs,c::cs=>(splice n vs cs).map (c :: ·)
 | _+1,_,[]=>none
def AV.isTup:AV→Bool
 | .tup _=>true
 | _=>false
def pBuild:List AV→List (Nat×Nat)→List AV→Option (List AV)
 | cells,[],[]=>some cells
 | cells,(off,sz)::ps,a::as=>if a.cells.length=sz∧a.isTup=false then (splice off a.cells cells).bind fun cs=>pBuild cs ps as else none
 | _,_,_=>none
def pMin (mx:Bool):AV→List AV→Option AV
 | a,[]=>some a
 | .int k x,.int k' y::r=>if k=k' then pMin mx (.int k (if mx then (if y>x then y else x) else (if y<x then y else x))) r else none
 | _,_=>none
def pv:PK→List AV→Option AV
 | .mov,[a]=>some a
 | .nilchk,[a]=>match a with
   | .ptr .. | .aptr .. | .ep _ | .fn ..=>some a
   | _=>none
 | .bin op,[a,b]=>pBin op a b
 | .eqb neg,[.bool a,.bool b]=>some (.bool (if neg then a != b else a ==b))
 | .eqnil neg p,[a]=>(if p then isNilP a else isNilS a).map fun b => .bool (if neg then !b else b)
 | .eq2 neg k1 k2,[a,b]=>pEq2 neg k1 k2 a b
 | .not,[.bool b]=>some (.bool !b)
 | .neg,[.int k n]=>some (.int k (k.wrap (0 - n)))
 | .cpl,[.int k n]=>some (.int k (bitInt .xor k (if k.signed then -1 else k.max) n))
 | .conv k,[.int _ n]=>some (.int k (k.wrap n))
 | .fld off,[a]=>pFld off a
 | .fldv off sz agg,[a]=>pFldv off sz agg a
 | .idx esz,[x,i]=>pIdx esz x i
 | .idxa len esz,[x,i]=>pIdxa len esz x i
 | .idxv len esz agg,[x,i]=>pIdxv len esz agg x i
 | .idxs,[x,i]=>pIdxs x i
 | .cap,[x]=>pCap x
 | .eqs neg,[a,b]=>pEqs neg a b
 | .len,[x]=>pLen x
 | .slice esz false false,[x]=>pSlice esz x 0 none
 | .slice esz true false,[x,.int _ l]=>pSlice esz x l none
 | .slice esz false true,[x,.int _ h]=>pSlice esz x 0 (some h)
 | .slice esz true true,[x,.int _ l,.int _ h]=>pSlice esz x l (some h)
 | .build zeros places,as=>(pBuild zeros places as).map .agg
 | .ext i,[.tup vs]=>vs[i]?
 | .mkfn f,caps=>some (.fn f caps)
 | .mkif t,[a]=>some (.iface t a)
 | .minmax mx,a::r=>pMin mx a r
 | _,_=>none
def tsz (P:Program) (t:TypeId):Option Nat:=(P.info? t).map (·.size)
def tagg (P:Program) (t:TypeId):Option Bool:=(P.underlying t).map fun | .struct _ | .array _ _=>true | _=>false
def tzero (P:Program) (t:TypeId):Option (List AV):=do
 let i ←P.info? t
 let v ←i.zero
 v.cells.toList.mapM AV.ofCell
def twoInts (P:Program) (t:TypeId) (fs:Array Field):Option (IntKind×IntKind):=do
 let [f,g]:=fs.toList | none
 let .int k1 ←P.underlying f.type | none
 let .int k2 ←P.underlying g.type | none
 if f.name ≠ "_" ∧ g.name ≠ "_" ∧ f.offset=0∧g.offset=1∧P.stoodInHeld t=false∧P.eqGuardType P.depth t=false then
  pure (k1,k2) else none
def compBin (P:Program) (op:BinOp) (t:TypeId) (x y:Operand):Option (PK×List Opd):=do
 let d ←P.underlying t
 match op,d with
 | .eql,.bool=>pure (.eqb false,[←compOpd x,←compOpd y])
 | .neq,.bool=>pure (.eqb true,[←compOpd x,←compOpd y])
 | .eql,.slice _=>match y with | .const (.slice none 0 0)=>pure (.eqnil false false,[←compOpd x]) | _=>none
 | .neq,.slice _=>match y with | .const (.slice none 0 0)=>pure (.eqnil true false,[←compOpd x]) | _=>none
 | .eql,.pointer _=>match y with | .const (.pointer none)=>pure (.eqnil false true,[←compOpd x]) | _=>none
 | .neq,.pointer _=>match y with | .const (.pointer none)=>pure (.eqnil true true,[←compOpd x]) | _=>none
 | .eql,.struct fs=>do
   let (k1,k2) ←twoInts P t fs
   pure (.eq2 false k1 k2,[←compOpd x,←compOpd y])
 | .neq,.struct fs=>do
   let (k1,k2) ←twoInts P t fs
   pure (.eq2 true k1 k2,[←compOpd x,←compOpd y])
 | .eql,.string=>pure (.eqs false,[←compOpd x,←compOpd y])
 | .neq,.string=>pure (.eqs true,[←compOpd x,←compOpd y])
 | _,.int _=>pure (.bin op,[←compOpd x,←compOpd y])
 | _,_=>none
def places (P:Program) (t:TypeId):Option (List (Nat×Nat)):=do
 match ←P.underlying t with
 | .struct fs=>fs.toList.mapM fun f=>do pure (f.offset,←tsz P f.type)
 | .array n e=>do
   let s ←tsz P e
   pure ((List.range n).map fun i=>(i*s,s))
 | _=>none
def compCallPure (P:Program) (c:Call):Option (PK×List Opd) :=
 match c.callee with
 | .builtin .len=>do
   let [x]:=c.args.toList | none
   let [t]:=c.argTypes.toList | none
   let .slice _ ←P.underlying t | none
   pure (.len,[←compOpd x])
 | .builtin .cap=>do
   let [x]:=c.args.toList | none
   let [t]:=c.argTypes.toList | none
   let .slice _ ←P.underlying t | none
   pure (.cap,[←compOpd x])
 | .builtin .min=>do pure (.minmax false,←c.args.toList.mapM compOpd)
 | .builtin .max=>do pure (.minmax true,←c.args.toList.mapM compOpd)
 | _=>none
def compPure (P:Program):Op→Option (PK×List Opd)
 | .move x | .assign x=>do pure (.mov,[←compOpd x])
 | .nilCheck x=>do pure (.nilchk,[←compOpd x])
 | .binOp op t x y _=>compBin P op t x y
 | .unOp .not _ x=>do pure (.not,[←compOpd x])
 | .unOp .neg _ x=>do pure (.neg,[←compOpd x])
 | .unOp .xor _ x=>do pure (.cpl,[←compOpd x])
 | .convert src dst x=>do
   let .int _ ←P.underlying src | none
   let .int k ←P.underlying dst | none
   pure (.conv k,[←compOpd x])
 | .fieldAddr s x f=>do
   let .struct fs ←P.underlying s | none
   let fd ←fs[f]?
   let n ←tsz P fd.type
   if n=0 then none else pure (.fld fd.offset,[←compOpd x])
 | .field t x f=>do
   let .struct fs ←P.underlying t | none
   let fd ←fs[f]?
   pure (.fldv fd.offset (←tsz P fd.type) (←tagg P fd.type),[←compOpd x])
 | .indexAddr t x i=>do
   match ←P.underlying t with
   | .slice e=>pure (.idx (←tsz P e),[←compOpd x,←compOpd i])
   | .array n e=>pure (.idxa n (←tsz P e),[←compOpd x,←compOpd i])
   | _=>none
 | .index t x i=>do
   match ←P.underlying t with
   | .array n e=>pure (.idxv n (←tsz P e) (←tagg P e),[←compOpd x,←compOpd i])
   | .string=>pure (.idxs,[←compOpd x,←compOpd i])
   | _=>none
 | .slice t x lo hi none=>do
   let .slice e ←P.underlying t | none
   let s ←tsz P e
   match lo,hi with
   | none,none=>pure (.slice s false false,[←compOpd x])
   | some l,none=>pure (.slice s true false,[←compOpd x,←compOpd l])
   | none,some h=>pure (.slice s false true,[←compOpd x,←compOpd h])
   | some l,some h=>pure (.slice s true true,[←compOpd x,←compOpd l,←compOpd h])
 | .build t parts=>do
   let z ←tzero P t
   let pl ←places P t
   let ps ←parts.toList.mapM fun (i,_)=>pl[i]?
   let xs ←parts.toList.mapM fun (_,x)=>compOpd x
   pure (.build z ps,xs)
 | .extract x i=>do pure (.ext i,[←compOpd x])
 | .makeFunc (.func f) first caps=>do
   if first.size=0 then pure (.mkfn f,←caps.toList.mapM compOpd) else none
 | .makeInterface t x=>do
   match ←P.underlying t with
   | .interface _=>none
   | _=>pure (.mkif t,[←compOpd x])
 | .call c=>compCallPure P c
 | _=>none
end Go.Am
namespace Go.Am
section
variable {P:Program} {w:World}
theorem zj {t:TypeId} {d:TypeDesc} (h:P.underlying t=some d):(underlying t).run P w = .ok d w:=by
 simp [underlying,h]
theorem zy {t:TypeId} {i:TypeInfo} (h:P.info? t=some i):(typeInfo t).run P w = .ok i w:=by
 simp [typeInfo,h]
theorem y9 {t:TypeId} {n:Nat} (h:tsz P t=some n):(sizeOf t).run P w = .ok n w:=by
 unfold tsz at h
 cases hi:P.info? t with
 | none=>simp [hi] at h
 | some i=>simp [hi] at h;subst h;simp [sizeOf,zy hi]
theorem z01 {t:TypeId} {b:Bool} (h:tagg P t=some b):(isAgg t).run P w = .ok b w:=by
 unfold tagg at h
 cases hi:P.underlying t with
 | none=>simp [hi] at h
 | some d=>simp [hi] at h;subst h;simp only [isAgg,Sem.run_bind,zj hi,Result.andThen_ok];split <;> simp_all
theorem z1i {t:TypeId} {z:List AV} (h:tzero P t=some z):∃ v,(zeroValue t).run P w = .ok v w∧v.cells.toList.mapM AV.ofCell=some z:=by
 unfold tzero at h
 cases hi:P.info? t with
 | none=>simp [hi] at h
 | some i =>
   cases hz:i.zero with
   | none=>simp [hi,hz] at h
   | some v=>exact ⟨v,by simp [zeroValue,zy hi,hz],by simpa [hi,hz] using h⟩
theorem zg7 {t:TypeId} {n:Nat} {b:Bool} (hs:tsz P t=some n) (ha:tagg P t=some b) (cs:Array Value) (off:Nat) :
 (part t cs off).run P w=if b then .ok (.agg (cs.extract off (off+n))) w else match cs[off]? with | some v => .ok v w | none => .halt (.stuck "part: no such cell") w:=by
 unfold part
 simp only [Sem.run_bind,z01 ha,Result.andThen_ok]
 cases b
 ·cases hc:cs[off]? <;> simp [hc]
 ·simp [y9 hs]
theorem z9 {α β:Type} {x:Option α} {f:α→Option β} {r:β} (h:x.bind f=some r):∃ a,x=some a∧f a=some r:=by
 cases x with
 | none=>cases h
 | some a=>exact ⟨a,rfl,h⟩
end
section
variable {w:World}
theorem VRel.of_bool {G:Gh} {b:Bool} {v:Value} (h:VRel G w (.bool b) v):v = .bool b:=by cases h;rfl
theorem VRel.of_int {G:Gh} {k:IntKind} {n:Int} {v:Value} (h:VRel G w (.int k n) v):v = .int k n:=by cases h;rfl
theorem VRel.of_nils {G:Gh} {v:Value} (h:VRel G w .nils v):v = .slice none 0 0:=by cases h;rfl
theorem VRel.of_ptr {G:Gh} {id off:Nat} {v:Value} (h:VRel G w (.ptr id off) v):∃ b base,G.ρ id=some (b,base)∧v = .pointer (some ⟨b,base+off,none⟩):=by
 cases h with | ptr h=>exact ⟨_,_,h,rfl⟩
theorem VRel.of_aptr {G:Gh} {id esz i off:Nat} {v:Value} (h:VRel G w (.aptr id esz i off) v):∃ b base,G.ρ id=some (b,base)∧v = .pointer (some ⟨b,base+(i*esz+off),none⟩):=by
 cases h with | aptr h=>exact ⟨_,_,h,rfl⟩
theorem VRel.of_agg {G:Gh} {cells:List AV} {v:Value} (h:VRel G w (.agg cells) v):∃ cs:List Value,v = .agg cs.toArray∧cells.length=cs.length∧(∀ c ∈ cells,c.flat=true) ∧
 (∀ k (h:k<cells.length) (h':k<cs.length),VRel G w cells[k] cs[k]):=by
 cases h with | agg hl hf hv=>exact ⟨_,rfl,hl,hf,hv⟩
theorem VRel.of_mp {G:Gh} {id:Nat} {v:Value} (h:VRel G w (.mp id) v):∃ b base,G.ρ id=some (b,base)∧v = .map (some b):=by
 cases h with | mp h=>exact ⟨_,_,h,rfl⟩
end
def OpdOk (G:Gh) (w:World) (ev:Operand→Value) (oev:Opd→Option AV):Prop :=
 ∀ (x:Operand) (y:Opd) (a:AV),compOpd x=some y→oev y=some a→VRel G w a (ev x)
def Gives (P:Program) (ev:Operand→Value) (op:Op) (w:World) (v:Value):Prop :=
 ∀ dst ty pos after guard,(execOp ev ⟨dst,op,ty,pos,after,guard⟩).run P w = .ok (.value v) w
section
variable {P:Program} {w:World} {G:Gh} {ev:Operand→Value} {oev:Opd→Option AV}
theorem zr {op:Op} {s:Sem Value} {v:Value} (h:∀ dst ty pos after guard,execOp ev ⟨dst,op,ty,pos,after,guard⟩=(do pure (.value (←s)))) (hs:s.run P w = .ok v w):Gives P ev op w v:=by
 intro dst ty pos after guard
 rw [h];simp [hs]
theorem yg {y:Opd} {as:List AV} (h:[y].mapM oev=some as):∃ a,oev y=some a∧as=[a]:=by
 simp only [List.mapM_cons,List.mapM_nil,Option.bind_eq_bind,Option.pure_def] at h
 obtain ⟨a,h1,h2⟩:=z9 h
 exact ⟨a,h1,by simpa using h2.symm⟩
theorem yr {y z:Opd} {as:List AV} (h:[y,z].mapM oev=some as):∃ a b,oev y=some a∧oev z=some b∧as=[a,b]:=by
 simp only [List.mapM_cons,List.mapM_nil,Option.bind_eq_bind,Option.pure_def] at h
 obtain ⟨a,h1,h2⟩:=z9 h
 obtain ⟨b,h3,h4⟩:=z9 h2
 obtain ⟨c,h5,h6⟩:=z9 h3
 simp at h6;subst h6
 exact ⟨a,c,h1,h5,by simpa using h4.symm⟩
theorem zaj {y z u:Opd} {as:List AV} (h:[y,z,u].mapM oev=some as):∃ a b c,oev y=some a∧oev z=some b∧oev u=some c∧as=[a,b,c]:=by
 simp only [List.mapM_cons,List.mapM_nil,Option.bind_eq_bind,Option.pure_def] at h
 obtain ⟨a,h1,h2⟩:=z9 h
 obtain ⟨b,h3,h4⟩:=z9 h2
 obtain ⟨c,h5,h6⟩:=z9 h3
 obtain ⟨d,h7,h8⟩:=z9 h6
 obtain ⟨e,h9,h10⟩:=z9 h7
 simp at h10;subst h10;simp at h8;subst h8
 exact ⟨a,c,e,h1,h5,h9,by simpa using h4.symm⟩
def Has (P:Program) (G:Gh) (ev:Operand→Value) (op:Op) (w:World) (a:AV):Prop:=∃ v,Gives P ev op w v∧VRel G w a v
theorem z5i {op:BinOp} {k:IntKind} {x y:Int} {a:AV} (t:TypeId) (h:binInt op k x y=some a) :
 ∃ v,(binOp op t (.int k x) (.int k y)).run P w = .ok v w∧VRel G w a v:=by
 have hb:∀ (b b':Bool) (hb:b'=b),VRel G w (.bool b) (.bool b'):=fun b b' h=>by subst h;exact .bool _
 cases op <;> simp only [binInt] at h
 case add | sub | mul=>cases h;exact ⟨.int k _,by simp [binOp,Op.intArith],.int _ _⟩
 case quo =>
  by_cases hy:y=0
  ·simp [hy] at h
  ·simp [hy] at h;subst h;exact ⟨.int k _,by simp [binOp,Op.intDiv,hy],.int _ _⟩
 case rem =>
  by_cases hy:y=0
  ·simp [hy] at h
  ·simp [hy] at h;subst h;exact ⟨.int k _,by simp [binOp,Op.intDiv,hy],.int _ _⟩
 case and =>
  cases h
  have e:binOp .and t (.int k x) (.int k y)=Op.intBits .and k x y:=by simp [binOp]
  exact ⟨_,by rw [e];rfl,.int _ _⟩
 case or =>
  cases h
  have e:binOp .or t (.int k x) (.int k y)=Op.intBits .or k x y:=by simp [binOp]
  exact ⟨_,by rw [e];rfl,.int _ _⟩
 case xor =>
  cases h
  have e:binOp .xor t (.int k x) (.int k y)=Op.intBits .xor k x y:=by simp [binOp]
  exact ⟨_,by rw [e];rfl,.int _ _⟩
 case andNot =>
  cases h
  have e:binOp .andNot t (.int k x) (.int k y)=Op.intBits .andNot k x y:=by simp [binOp]
  exact ⟨_,by rw [e];rfl,.int _ _⟩
 case eql=>cases h;exact ⟨.bool (x ==y),by simp [binOp,Op.intCmp],hb _ _ (by by_cases e:x=y <;> simp [e])⟩
 case neq=>cases h;exact ⟨.bool (x != y),by simp [binOp,Op.intCmp],hb _ _ (by by_cases e:x=y <;> simp [e])⟩
 case lss | leq | gtr | geq=>cases h;exact ⟨.bool _,by simp only [binOp,ne_eq,not_true_eq_false,if_false,Op.intCmp,Sem.run_pure],hb _ _ rfl⟩
 all_goals cases h
theorem z9o {op:BinOp} {a b c:AV} {x y:Value} (t:TypeId) (ha:VRel G w a x) (hb:VRel G w b y) (h:pBin op a b=some c) :
 ∃ v,(binOp op t x y).run P w = .ok v w∧VRel G w c v:=by
 unfold pBin at h
 split at h
 ·rename_i k n k' m
  cases ha;cases hb
  by_cases hm:m<0
  ·simp [hm] at h
  ·simp [hm] at h;subst h
   exact ⟨_,by simp [binOp,Op.shift,hm];rfl,.int _ _⟩
 ·rename_i k n k' m
  cases ha;cases hb
  by_cases hm:m<0
  ·simp [hm] at h
  ·simp [hm] at h;subst h
   exact ⟨_,by simp [binOp,Op.shift,hm];rfl,.int _ _⟩
 ·rename_i op k n k' m h1 h2
  cases ha;cases hb
  by_cases hk:k=k'
  ·simp only [hk,if_true] at h;subst hk;exact z5i t h
  ·simp [hk] at h
 ·cases h
theorem zax {op:BinOp} {t yt:TypeId} {x y:Operand} {X Y:Opd} {as:List AV} {a:AV} (H:OpdOk G w ev oev)
 (hX:compOpd x=some X) (hY:compOpd y=some Y) (has:[X,Y].mapM oev=some as) (hp:pv (.bin op) as=some a) :
 Has P G ev (.binOp op t x y yt) w a:=by
 obtain ⟨p,q,h1,h2,rfl⟩:=yr has
 have hx:=H x X p hX h1
 have hy:=H y Y q hY h2
 obtain ⟨v,hv,hr⟩:=z9o (P:=P) t hx hy hp
 refine ⟨v,zr (fun _ _ _ _ _=>rfl) ?_,hr⟩
 have hg:(eqGuard op t x y (ev x) (ev y)).run P w = .ok () w:=by
  have:∃ k n k' m,ev x = .int k n∧ev y = .int k' m:=by
   have hp':pBin op p q=some a:=hp
   unfold pBin at hp'
   split at hp'
   ·exact ⟨_,_,_,_,hx.of_int,hy.of_int⟩
   ·exact ⟨_,_,_,_,hx.of_int,hy.of_int⟩
   ·exact ⟨_,_,_,_,hx.of_int,hy.of_int⟩
   ·cases hp'
  obtain ⟨k,n,k',m,e1,e2⟩:=this
  unfold eqGuard
  rw [e1,e2]
  cases op <;> simp
 simp [hg,hv]
end
end Go.Am
namespace Go.Am
theorem x6 (b o n:Nat):(⟨b,o,none⟩:Addr).add n=⟨b,o+n,none⟩:=by
 unfold Addr.add;split
 ·rename_i h;subst h;rfl
 ·rfl
section
variable {w:World} {G:Gh}
theorem VRel.of_ep {cells:List AV} {v:Value} (h:VRel G w (.ep cells) v):∃ b off,∃ vs:Nat→Value,v = .pointer (some ⟨b,off,none⟩)∧G.I b∧(∀ c ∈ cells,c.flat=true) ∧
 (∀ k,k<cells.length→w.cell? ⟨b,off+k,none⟩=some (vs k))∧(∀ k (h:k<cells.length),VRel G w cells[k] (vs k)):=by
 cases h with | ep vs hb hf hc hv=>exact ⟨_,_,vs,rfl,hb,hf,hc,hv⟩
theorem VRel.of_sl {esz:Nat} {es:List (List AV)} {v:Value} (h:VRel G w (.sl esz es) v) (hne:es≠[]) :
 ∃ b off c,∃ vs:Nat→Nat→Value,v = .slice (some ⟨b,off,none⟩) es.length c∧G.I b∧es.length≤c∧(∀ cs ∈ es,cs.length=esz)∧(∀ cs ∈ es,∀ x ∈ cs,x.flat=true) ∧
   (∀ i j,i<es.length→j<esz→w.cell? ⟨b,off+(i*esz+j),none⟩=some (vs i j)) ∧
   (∀ i j (hi:i<es.length) (hj:j<(es[i]'hi:List AV).length),VRel G w ((es[i]'hi:List AV)[j]'hj) (vs i j)):=by
 cases h with
 | sl0=>exact absurd rfl hne
 | sl vs hb hne hcap hl hf hc hv=>exact ⟨_,_,_,vs,rfl,hb,hcap,hl,hf,hc,hv⟩
theorem VRel.of_sl_len {esz:Nat} {es:List (List AV)} {v:Value} (h:VRel G w (.sl esz es) v):∃ a c,v = .slice a es.length c∧es.length≤c:=by
 cases h with
 | sl0=>exact ⟨_,_,rfl,Nat.zero_le _⟩
 | sl vs hb hne hcap hl hf hc hv=>exact ⟨_,_,rfl,hcap⟩
theorem VRel.of_os {id esz off len:Nat} {v:Value} (h:VRel G w (.os id esz off len) v):∃ b base,G.ρ id=some (b,base) ∧
 ((∃ c,v = .slice (some ⟨b,base+off*esz,none⟩) len c∧len≤c∧∃ ty n,w.shape? b=some (ty,n)∧base+(off+c)*esz≤n) ∨
  (len=0∧∃ x,v = .slice (some x) 0 0)):=by
 cases h with
 | os h hlen hs=>exact ⟨_,_,h,.inl ⟨_,rfl,hlen,hs⟩⟩
 | os0 h=>exact ⟨_,_,h,.inr ⟨rfl,_,rfl⟩⟩
theorem VRel.of_tup {vs:List AV} {v:Value} (h:VRel G w (.tup vs) v):∃ cs:List Value,v = .tuple cs.toArray∧vs.length=cs.length ∧
 (∀ k (h:k<vs.length) (h':k<cs.length),VRel G w vs[k] cs[k]):=by
 cases h with | tup hl hv=>exact ⟨_,rfl,hl,hv⟩
theorem VRel.of_fn {f:Nat} {caps:List AV} {v:Value} (h:VRel G w (.fn f caps) v):∃ cs:List Value,v = .func (.func f) #[] cs.toArray∧caps.length=cs.length ∧
 (∀ k (h:k<caps.length) (h':k<cs.length),VRel G w caps[k] cs[k]):=by
 cases h with | fn hl hv=>exact ⟨_,rfl,hl,hv⟩
end
section
variable {P:Program} {w:World} {G:Gh} {ev:Operand→Value} {oev:Opd→Option AV}
theorem z19 (t:TypeId) (x y:Value):Op.equal t x y=Op.equalIn (9999+1) t x y:=rfl
theorem qt {neg:Bool} {t:TypeId} {x y:Value} {b:Bool}
 (h1:binOp .eql t x y=(do pure (.bool (←Op.equal t x y)))) (h2:binOp .neq t x y=(do pure (.bool (!(←Op.equal t x y)))))
 (h:(Op.equal t x y).run P w = .ok b w):(binOp (if neg then .neq else .eql) t x y).run P w = .ok (.bool (if neg then !b else b)) w:=by
 cases neg
 ·simp only [Bool.false_eq_true,if_false];rw [h1];simp [h]
 ·simp only [if_true];rw [h2];simp [h]
theorem z3g (d:Nat) {t:TypeId} (ht:P.underlying t=some .bool) (a b:Bool):(Op.equalIn (d+1) t (.bool a) (.bool b)).run P w = .ok (a ==b) w:=by
 simp [Op.equalIn,zj ht]
theorem z0k (d:Nat) {t:TypeId} {k:IntKind} (ht:P.underlying t=some (.int k)) (k':IntKind) (a b:Int):(Op.equalIn (d+1) t (.int k' a) (.int k' b)).run P w = .ok (a ==b) w:=by
 simp [Op.equalIn,zj ht]
theorem qi (d:Nat) {t e:TypeId} (ht:P.underlying t=some (.slice e)) (a:Option Addr) (n c:Nat) :
 (Op.equalIn (d+1) t (.slice a n c) (.slice none 0 0)).run P w = .ok a.isNone w:=by
 cases a <;> simp [Op.equalIn,zj ht]
theorem z4g (d:Nat) {t e:TypeId} (ht:P.underlying t=some (.pointer e)) (a:Option Addr) :
 (Op.equalIn (d+1) t (.pointer a) (.pointer none)).run P w = .ok a.isNone w:=by
 cases a <;> simp [Op.equalIn,zj ht]
theorem x7 {op:BinOp} {t:TypeId} {x y:Operand} {a b:Value} (h1:a ≠ .nilIface) (h2:∀ cs,a ≠ .agg cs):(eqGuard op t x y a b).run P w = .ok () w:=by
 cases a <;> first
  | exact absurd rfl h1
  | exact absurd rfl (h2 _)
  | (cases op <;> simp [eqGuard])
theorem z51 {op:BinOp} {neg:Bool} {t yt:TypeId} {x y:Operand} {X Y:Opd} {as:List AV} {a:AV} (H:OpdOk G w ev oev)
 (hop:op=if neg then .neq else .eql) (ht:P.underlying t=some .bool)
 (hX:compOpd x=some X) (hY:compOpd y=some Y) (has:[X,Y].mapM oev=some as) (hp:pv (.eqb neg) as=some a) :
 Has P G ev (.binOp op t x y yt) w a:=by
 obtain ⟨p,q,h1,h2,rfl⟩:=yr has
 have hx:=H x X p hX h1
 have hy:=H y Y q hY h2
 cases p <;> simp only [pv,reduceCtorEq] at hp
 cases q <;> simp only [pv,reduceCtorEq] at hp
 rename_i b b'
 have hr:=qt (P:=P) (w:=w) (neg:=neg) (t:=t) (x := .bool b) (y := .bool b') rfl rfl (z3g 9999 ht b b')
 refine ⟨.bool (if neg then !(b ==b') else b ==b'),zr (fun _ _ _ _ _=>rfl) ?_,by cases hp;exact .bool _⟩
 rw [hx.of_bool,hy.of_bool]
 simp only [Sem.run_bind,x7 (P:=P) (w:=w) (a := .bool b) (by simp) (by simp),Result.andThen_ok]
 rw [hop,hr]
theorem z3n {p:AV} {v:Value} {b:Bool} (h:VRel G w p v) (hb:isNilS p=some b):∃ a n c,v = .slice a n c∧a.isNone=b:=by
 cases h with
 | nils=>cases hb;exact ⟨_,_,_,rfl,rfl⟩
 | sl0=>simp [isNilS] at hb
 | sl vs _ hne=>simp [isNilS,hne] at hb;subst hb;exact ⟨_,_,_,rfl,rfl⟩
 | os=>cases hb;exact ⟨_,_,_,rfl,rfl⟩
 | os0=>cases hb;exact ⟨_,_,_,rfl,rfl⟩
 | _=>cases hb
theorem z5z {p:AV} {v:Value} {b:Bool} (h:VRel G w p v) (hb:isNilP p=some b):∃ a,v = .pointer a∧a.isNone=b:=by
 cases h with
 | nil=>cases hb;exact ⟨_,rfl,rfl⟩
 | ptr=>cases hb;exact ⟨_,rfl,rfl⟩
 | aptr=>cases hb;exact ⟨_,rfl,rfl⟩
 | ep=>cases hb;exact ⟨_,rfl,rfl⟩
 | _=>cases hb
theorem uc {op:BinOp} {neg p:Bool} {t yt:TypeId} {x y:Operand} {X:Opd} {as:List AV} {a:AV} (H:OpdOk G w ev oev)
 (hop:op=if neg then .neq else .eql) (hX:compOpd x=some X) (has:[X].mapM oev=some as) (hp:pv (.eqnil neg p) as=some a)
 (hk:(p=false∧∃ e,P.underlying t=some (.slice e)∧ev y = .slice none 0 0)∨(p=true∧∃ e,P.underlying t=some (.pointer e)∧ev y = .pointer none)) :
 Has P G ev (.binOp op t x y yt) w a:=by
 obtain ⟨p',h1,rfl⟩:=yg has
 have hx:=H x X p' hX h1
 simp only [pv,Option.map_eq_some_iff] at hp
 obtain ⟨b,hb,rfl⟩:=hp
 refine ⟨.bool (if neg then !b else b),zr (fun _ _ _ _ _=>rfl) ?_,.bool _⟩
 rcases hk with ⟨rfl,e,ht,hy⟩ | ⟨rfl,e,ht,hy⟩
 ·obtain ⟨a,n,c,hv,hab⟩:=z3n hx (by simpa using hb)
  rw [hv,hy]
  simp only [Sem.run_bind,x7 (P:=P) (w:=w) (a := .slice a n c) (by simp) (by simp),Result.andThen_ok]
  rw [hop,←hab]
  exact qt (P:=P) (w:=w) (neg:=neg) (t:=t) rfl rfl (qi 9999 ht a n c)
 ·obtain ⟨a,hv,hab⟩:=z5z hx (by simpa using hb)
  rw [hv,hy]
  simp only [Sem.run_bind,x7 (P:=P) (w:=w) (a := .pointer a) (by simp) (by simp),Result.andThen_ok]
  rw [hop,←hab]
  refine qt (P:=P) (w:=w) (neg:=neg) (t:=t) ?_ ?_ (z4g 9999 ht a)
  ·cases a <;> rfl
  ·cases a <;> rfl
end
end Go.Am
namespace Go.Am
section
variable {P:Program} {w:World} {G:Gh} {ev:Operand→Value} {oev:Opd→Option AV}
theorem u6 {t:TypeId} {fs:Array Field} {k1 k2:IntKind} (h:twoInts P t fs=some (k1,k2)) :
 ∃ f g,fs = #[f,g]∧P.underlying f.type=some (.int k1)∧P.underlying g.type=some (.int k2)∧f.name ≠ "_" ∧ g.name ≠ "_" ∧ f.offset=0∧g.offset=1 ∧
   P.stoodInHeld t=false∧P.eqGuardType P.depth t=false:=by
 unfold twoInts at h
 simp only [Option.bind_eq_bind,Option.pure_def] at h
 split at h
 ·rename_i f g hfs
  obtain ⟨d1,h1,h⟩:=z9 h
  split at h
  ·rename_i k1'
   obtain ⟨d2,h2,h⟩:=z9 h
   split at h
   ·rename_i k2'
    split at h
    ·rename_i hc
     obtain ⟨c1,c2,c3,c4,c5,c6⟩:=hc
     cases h
     exact ⟨f,g,by rw [←Array.toArray_toList (xs:=fs),hfs],h1,h2,c1,c2,c3,c4,c5,c6⟩
    ·cases h
   ·cases h
  ·cases h
 ·cases h
theorem uz {t:TypeId} {k:IntKind} (h:P.underlying t=some (.int k)) {cs:Array Value} {off:Nat} {v:Value} (hc:cs[off]? = some v) :
 (part t cs off).run P w = .ok v w:=by
 unfold part isAgg
 simp [zj h,hc]
theorem z0l (d:Nat) {t:TypeId} {fs:Array Field} {k1 k2:IntKind} (ht:P.underlying t=some (.struct fs)) (h:twoInts P t fs=some (k1,k2)) (a1 a2 b1 b2:Int) :
 (Op.equalIn (d+1+1) t (.agg #[.int k1 a1,.int k2 a2]) (.agg #[.int k1 b1,.int k2 b2])).run P w = .ok (decide (a1=b1∧a2=b2)) w:=by
 obtain ⟨f,g,rfl,h1,h2,h3,h4,h5,h6,h7,h8⟩:=u6 h
 rw [Op.equalIn]
 simp only [Sem.run_bind,zj ht,Result.andThen_ok,run_program,h7]
 simp only [Bool.false_eq_true,if_false]
 have p1:∀ x y,(part f.type #[.int k1 x,.int k2 y] f.offset).run P w = .ok (.int k1 x) w:=fun x y=>uz h1 (by simp [h5])
 have p2:∀ x y,(part g.type #[.int k1 x,.int k2 y] g.offset).run P w = .ok (.int k2 y) w:=fun x y=>uz h2 (by simp [h6])
 have q1:∀ x y,(Op.equalIn (d+1) f.type (.int k1 x) (.int k1 y)).run P w = .ok (x ==y) w:=fun x y=>z0k d h1 k1 x y
 have q2:∀ x y,(Op.equalIn (d+1) g.type (.int k2 x) (.int k2 y)).run P w = .ok (x ==y) w:=fun x y=>z0k d h2 k2 x y
 simp only [List.forIn_toArray,List.forIn_cons,List.forIn_nil,bind_assoc,Sem.run_bind]
 by_cases e1:a1=b1 <;> by_cases e2:a2=b2 <;> simp [h3,h4,p1,p2,q1,q2,e1,e2]
theorem z4f {op:BinOp} {t:TypeId} {x y:Operand} {a b:Array Value} (h:P.eqGuardType P.depth t=false):(eqGuard op t x y (.agg a) (.agg b)).run P w = .ok () w:=by
 cases op <;> simp [eqGuard,h]
theorem qn {cells:List AV} {a b:AV} {v:Value} (h:VRel G w (.agg cells) v) (hc:cells=[a,b]):∃ x y,v = .agg #[x,y]∧VRel G w a x∧VRel G w b y:=by
 subst hc
 obtain ⟨cs,rfl,hl,_,hv⟩:=h.of_agg
 match cs,hl with
 | [x,y],_=>exact ⟨x,y,rfl,hv 0 (by simp) (by simp),hv 1 (by simp) (by simp)⟩
theorem z50 {op:BinOp} {neg:Bool} {k1 k2:IntKind} {t yt:TypeId} {fs:Array Field} {x y:Operand} {X Y:Opd} {as:List AV} {a:AV} (H:OpdOk G w ev oev)
 (hop:op=if neg then .neq else .eql) (ht:P.underlying t=some (.struct fs)) (h2i:twoInts P t fs=some (k1,k2))
 (hX:compOpd x=some X) (hY:compOpd y=some Y) (has:[X,Y].mapM oev=some as) (hp:pv (.eq2 neg k1 k2) as=some a) :
 Has P G ev (.binOp op t x y yt) w a:=by
 obtain ⟨p,q,h1,h2,rfl⟩:=yr has
 have hx:=H x X p hX h1
 have hy:=H y Y q hY h2
 simp only [pv] at hp
 unfold pEq2 at hp
 split at hp
 ·rename_i j1 x1 j2 x2 i1 y1 i2 y2
  split at hp
  ·rename_i hk
   obtain ⟨rfl,rfl,rfl,rfl⟩:=hk
   obtain ⟨u1,u2,hv,r1,r2⟩:=qn hx rfl
   obtain ⟨v1,v2,hv',r3,r4⟩:=qn hy rfl
   have e1:=r1.of_int;have e2:=r2.of_int;have e3:=r3.of_int;have e4:=r4.of_int
   subst e1 e2 e3 e4
   refine ⟨.bool (if neg then !decide (x1=y1∧x2=y2) else decide (x1=y1∧x2=y2)),zr (fun _ _ _ _ _=>rfl) ?_,by cases hp;exact .bool _⟩
   obtain ⟨_,_,_,_,_,_,_,_,_,_,hg⟩:=u6 h2i
   rw [hv,hv']
   simp only [Sem.run_bind,z4f hg,Result.andThen_ok]
   rw [hop]
   exact qt (P:=P) (w:=w) (neg:=neg) (t:=t) rfl rfl (by rw [z19];exact z0l 9998 ht h2i x1 x2 y1 y2)
  ·cases hp
 ·cases hp
theorem z53 {op:Op} {x:Operand} {X:Opd} {as:List AV} {a:AV} (H:OpdOk G w ev oev) (hop:op = .move x∨op = .assign x)
 (hX:compOpd x=some X) (has:[X].mapM oev=some as) (hp:pv .mov as=some a):Has P G ev op w a:=by
 obtain ⟨p,h1,rfl⟩:=yg has
 simp only [pv,Option.some.injEq] at hp
 subst hp
 refine ⟨ev x,?_,H x X p hX h1⟩
 intro dst ty pos after guard
 rcases hop with rfl | rfl <;> simp [execOp]
theorem z5y {x:Operand} {X:Opd} {as:List AV} {a:AV} (H:OpdOk G w ev oev)
 (hX:compOpd x=some X) (has:[X].mapM oev=some as) (hp:pv .nilchk as=some a):Has P G ev (.nilCheck x) w a:=by
 obtain ⟨p,h1,rfl⟩:=yg has
 have hx:=H x X p hX h1
 simp only [pv] at hp
 refine ⟨ev x,?_,?_⟩
 ·intro dst ty pos after guard
  split at hp
  ·obtain ⟨b,base,_,hv⟩:=hx.of_ptr;rw [hv];simp [execOp,hv]
  ·obtain ⟨b,base,_,hv⟩:=hx.of_aptr;rw [hv];simp [execOp,hv]
  ·obtain ⟨b,off,vs,hv,_⟩:=hx.of_ep;rw [hv];simp [execOp,hv]
  ·obtain ⟨cs,hv,_⟩:=hx.of_fn;rw [hv];simp [execOp,hv]
  ·cases hp
 ·split at hp <;> cases hp <;> exact hx
theorem zb5 {t:TypeId} {x:Operand} {X:Opd} {as:List AV} {a:AV} (H:OpdOk G w ev oev)
 (hX:compOpd x=some X) (has:[X].mapM oev=some as) (hp:pv .not as=some a):Has P G ev (.unOp .not t x) w a:=by
 obtain ⟨p,h1,rfl⟩:=yg has
 have hx:=H x X p hX h1
 cases p <;> simp only [pv,reduceCtorEq] at hp
 cases hp
 exact ⟨_,zr (s:=Op.unary .not (ev x)) (fun _ _ _ _ _=>rfl) (by rw [hx.of_bool];rfl),.bool _⟩
theorem zb4 {t:TypeId} {x:Operand} {X:Opd} {as:List AV} {a:AV} (H:OpdOk G w ev oev)
 (hX:compOpd x=some X) (has:[X].mapM oev=some as) (hp:pv .neg as=some a):Has P G ev (.unOp .neg t x) w a:=by
 obtain ⟨p,h1,rfl⟩:=yg has
 have hx:=H x X p hX h1
 cases p <;> simp only [pv,reduceCtorEq] at hp
 cases hp
 exact ⟨_,zr (s:=Op.unary .neg (ev x)) (fun _ _ _ _ _=>rfl) (by rw [hx.of_int];rfl),.int _ _⟩
theorem zaz {t:TypeId} {x:Operand} {X:Opd} {as:List AV} {a:AV} (H:OpdOk G w ev oev)
 (hX:compOpd x=some X) (has:[X].mapM oev=some as) (hp:pv .cpl as=some a):Has P G ev (.unOp .xor t x) w a:=by
 obtain ⟨p,h1,rfl⟩:=yg has
 have hx:=H x X p hX h1
 cases p <;> simp only [pv,reduceCtorEq] at hp
 cases hp
 exact ⟨_,zr (s:=Op.unary .xor (ev x)) (fun _ _ _ _ _=>rfl) (by rw [hx.of_int];rfl),.int _ _⟩
theorem z95 {s d:TypeId} {j k:IntKind} {x:Operand} {X:Opd} {as:List AV} {a:AV} (H:OpdOk G w ev oev)
 (hs:P.underlying s=some (.int j)) (hd:P.underlying d=some (.int k))
 (hX:compOpd x=some X) (has:[X].mapM oev=some as) (hp:pv (.conv k) as=some a):Has P G ev (.convert s d x) w a:=by
 obtain ⟨p,h1,rfl⟩:=yg has
 have hx:=H x X p hX h1
 cases p <;> simp only [pv,reduceCtorEq] at hp
 cases hp
 refine ⟨_,zr (s:=convert s d (ev x)) (fun _ _ _ _ _=>rfl) ?_,.int _ _⟩
 rw [hx.of_int]
 simp only [convert,Sem.run_bind,zj hs,zj hd,Result.andThen_ok]
 rfl
theorem z4x {cells:List AV} {b off n:Nat} (h:VRel G w (.ep cells) (.pointer (some ⟨b,off,none⟩))):VRel G w (.ep (cells.drop n)) (.pointer (some ⟨b,off+n,none⟩)):=by
 obtain ⟨b',off',vs,he,hI,hf,hc,hv⟩:=h.of_ep
 cases he
 refine .ep (fun k=>vs (n+k)) hI (fun c hc'=>hf c (List.mem_of_mem_drop hc')) (fun k hk => ?_) (fun k hk => ?_)
 ·rw [List.length_drop] at hk
  rw [Nat.add_assoc];exact hc (n+k) (by omega)
 ·rw [List.length_drop] at hk
  have:=hv (n+k) (by omega)
  rw [List.getElem_drop];exact this
theorem z1y {f:Field} {n:Nat} (hn:tsz P f.type=some n) (h0:n≠0) (b o:Nat):(fieldPlace ⟨b,o,none⟩ f).run P w = .ok ⟨b,o+f.offset,none⟩ w:=by
 unfold fieldPlace
 simp [y9 hn,h0,x6]
theorem zb1 {s:TypeId} {fs:Array Field} {f:Nat} {fd:Field} {n:Nat} {x:Operand} {X:Opd} {as:List AV} {a:AV} (H:OpdOk G w ev oev)
 (hs:P.underlying s=some (.struct fs)) (hf:fs[f]? = some fd) (hn:tsz P fd.type=some n) (h0:n≠0)
 (hX:compOpd x=some X) (has:[X].mapM oev=some as) (hp:pv (.fld fd.offset) as=some a):Has P G ev (.fieldAddr s x f) w a:=by
 obtain ⟨p,h1,rfl⟩:=yg has
 have hx:=H x X p hX h1
 simp only [pv] at hp
 have key:∀ b o,ev x = .pointer (some ⟨b,o,none⟩)→(Instr.fieldAt s (ev x) f).run P w = .ok (.pointer (some ⟨b,o+fd.offset,none⟩)) w:=fun b o he=>by
  unfold Instr.fieldAt Instr.sureAddr
  simp [zj hs,hf,he,z1y hn h0]
 unfold pFld at hp
 split at hp
 ·obtain ⟨b,base,hb,hv⟩:=hx.of_ptr
  cases hp
  exact ⟨_,zr (s:=Instr.fieldAt s (ev x) f) (fun _ _ _ _ _=>rfl) (key _ _ hv),by rw [Nat.add_assoc];exact .ptr hb⟩
 ·obtain ⟨b,base,hb,hv⟩:=hx.of_aptr
  cases hp
  exact ⟨_,zr (s:=Instr.fieldAt s (ev x) f) (fun _ _ _ _ _=>rfl) (key _ _ hv),by rw [Nat.add_assoc,Nat.add_assoc];exact .aptr hb⟩
 ·obtain ⟨b,off,vs,hv,_⟩:=hx.of_ep
  cases hp
  exact ⟨_,zr (s:=Instr.fieldAt s (ev x) f) (fun _ _ _ _ _=>rfl) (key _ _ hv),by rw [hv] at hx;exact z4x hx⟩
 ·cases hp
theorem z3u {t:TypeId} {off sz:Nat} {agg:Bool} {cells:List AV} {a:AV} {cs:List Value} (hs:tsz P t=some sz) (ha:tagg P t=some agg)
 (hl:cells.length=cs.length) (hf:∀ c ∈ cells,c.flat=true) (hv:∀ k (h:k<cells.length) (h':k<cs.length),VRel G w cells[k] cs[k])
 (hp:pPart off sz agg cells=some a):∃ v,(part t cs.toArray off).run P w = .ok v w∧VRel G w a v:=by
 rw [zg7 hs ha]
 unfold pPart at hp
 cases agg
 ·simp only [Bool.false_eq_true,if_false] at hp ⊢
  obtain ⟨hk,rfl⟩:=List.getElem?_eq_some_iff.1 hp
  have hk':off<cs.length:=hl ▸ hk
  have:cs.toArray[off]? = some (cs[off]'hk'):=by simp [hk']
  exact ⟨_,by rw [this],hv off hk hk'⟩
 ·simp only [if_true] at hp ⊢
  split at hp
  ·cases hp
   refine ⟨_,rfl,?_⟩
   have e:cs.toArray.extract off (off+sz)=((cs.drop off).take sz).toArray:=by
    rw [List.extract_toArray,List.extract_eq_take_drop,Nat.add_sub_cancel_left]
   rw [e]
   refine .agg (by simp [hl]) (fun c hc=>hf c (List.mem_of_mem_drop (List.mem_of_mem_take hc))) fun k hk hk' => ?_
   simp only [List.length_take,List.length_drop] at hk
   have:=hv (off+k) (by omega) (by omega)
   simpa using this
  ·cases hp
theorem z96 {t:TypeId} {fs:Array Field} {f:Nat} {fd:Field} {n:Nat} {ag:Bool} {x:Operand} {X:Opd} {as:List AV} {a:AV} (H:OpdOk G w ev oev)
 (hs:P.underlying t=some (.struct fs)) (hf:fs[f]? = some fd) (hn:tsz P fd.type=some n) (ha:tagg P fd.type=some ag)
 (hX:compOpd x=some X) (has:[X].mapM oev=some as) (hp:pv (.fldv fd.offset n ag) as=some a):Has P G ev (.field t x f) w a:=by
 obtain ⟨p,h1,rfl⟩:=yg has
 have hx:=H x X p hX h1
 simp only [pv] at hp
 unfold pFldv at hp
 split at hp
 ·obtain ⟨cs,hv,hl,hfl,hr⟩:=hx.of_agg
  obtain ⟨v,h2,h3⟩:=z3u (P:=P) hn ha hl hfl hr hp
  refine ⟨v,zr (s:=Instr.field t (ev x) f) (fun _ _ _ _ _=>rfl) ?_,h3⟩
  unfold Instr.field
  simp [zj hs,hf,hv,asAgg,h2]
 ·cases hp
theorem yh (k:IntKind) (n:Int):(asIntOf (.int k n)).run P w = .ok (k,n) w:=rfl
theorem qk {t e:TypeId} {sz:Nat} (ht:P.underlying t=some (.slice e)) (hs:tsz P e=some sz) {k:IntKind} {m:Int} {b o n c:Nat} (h0:0≤m) (h1:m<(n:Int)) :
 (Instr.indexAt t (.slice (some ⟨b,o,none⟩) n c) (.int k m)).run P w = .ok (.pointer (some ⟨b,o+m.toNat*sz,none⟩)) w:=by
 unfold Instr.indexAt
 simp [yh,zj ht,y9 hs,h0,h1,x6]
theorem wy {t e:TypeId} {sz len:Nat} (ht:P.underlying t=some (.array len e)) (hs:tsz P e=some sz) {k:IntKind} {m:Int} {b o:Nat} (h0:0≤m) (h1:m<(len:Int)) :
 (Instr.indexAt t (.pointer (some ⟨b,o,none⟩)) (.int k m)).run P w = .ok (.pointer (some ⟨b,o+m.toNat*sz,none⟩)) w:=by
 unfold Instr.indexAt Instr.sureAddr
 simp [yh,zj ht,y9 hs,h0,h1,x6]
theorem zga {esz:Nat} {es:List (List AV)} {b off n c:Nat} {m:Nat} {cs:List AV} (h:VRel G w (.sl esz es) (.slice (some ⟨b,off,none⟩) n c)) (hm:es[m]? = some cs) :
 VRel G w (.ep cs) (.pointer (some ⟨b,off+m*esz,none⟩)):=by
 have hne:es≠[]:=by intro e;subst e;simp at hm
 obtain ⟨b',off',c',vs,he,hI,hcap,hl,hf,hc,hv⟩:=h.of_sl hne
 cases he
 obtain ⟨hm',rfl⟩:=List.getElem?_eq_some_iff.1 hm
 have hlen:es[m].length=esz:=hl _ (List.getElem_mem hm')
 exact .ep (fun k=>vs m k) hI (hf _ (List.getElem_mem hm')) (fun k hk=>by rw [Nat.add_assoc];exact hc m k hm' (by omega)) (fun k hk=>hv m k hm' hk)
theorem zb2 {t e:TypeId} {sz:Nat} {x i:Operand} {X I:Opd} {as:List AV} {a:AV} (H:OpdOk G w ev oev)
 (ht:P.underlying t=some (.slice e)) (hs:tsz P e=some sz)
 (hX:compOpd x=some X) (hI:compOpd i=some I) (has:[X,I].mapM oev=some as) (hp:pv (.idx sz) as=some a):Has P G ev (.indexAddr t x i) w a:=by
 obtain ⟨p,q,h1,h2,rfl⟩:=yr has
 have hx:=H x X p hX h1
 have hi:=H i I q hI h2
 simp only [pv] at hp
 unfold pIdx at hp
 split at hp
 ·rename_i esz' es k m
  split at hp
  ·rename_i hc
   obtain ⟨rfl,h0⟩:=hc
   cases hm:es[m.toNat]? with
   | none=>simp [hm] at hp
   | some cs =>
     simp [hm] at hp;subst hp
     have hlt:m.toNat<es.length:=(List.getElem?_eq_some_iff.1 hm).1
     have hne:es≠[]:=by intro e;subst e;simp at hm
     obtain ⟨b,off,c,vs,hv,_⟩:=hx.of_sl hne
     rw [hv] at hx
     refine ⟨_,zr (s:=Instr.indexAt t (ev x) (ev i)) (fun _ _ _ _ _=>rfl) (by rw [hv,hi.of_int];exact qk ht hs h0 (by omega)),zga hx hm⟩
  ·cases hp
 ·rename_i id esz' off len k m
  split at hp
  ·rename_i hc
   obtain ⟨rfl,h0,hlt⟩:=hc
   cases hp
   obtain ⟨b,base,hb,⟨c,hv,hlen,_⟩ | ⟨rfl,_⟩⟩:=hx.of_os
   ·refine ⟨_,zr (s:=Instr.indexAt t (ev x) (ev i)) (fun _ _ _ _ _=>rfl) (by rw [hv,hi.of_int];exact qk ht hs h0 hlt),?_⟩
    have e:base+off*esz'+m.toNat*esz'=base+((off+m.toNat)*esz'+0):=by rw [Nat.add_mul];omega
    rw [e];exact .aptr hb
   ·omega
  ·cases hp
 ·cases hp
theorem z97 {t e:TypeId} {sz len:Nat} {x i:Operand} {X I:Opd} {as:List AV} {a:AV} (H:OpdOk G w ev oev)
 (ht:P.underlying t=some (.array len e)) (hs:tsz P e=some sz)
 (hX:compOpd x=some X) (hI:compOpd i=some I) (has:[X,I].mapM oev=some as) (hp:pv (.idxa len sz) as=some a):Has P G ev (.indexAddr t x i) w a:=by
 obtain ⟨p,q,h1,h2,rfl⟩:=yr has
 have hx:=H x X p hX h1
 have hi:=H i I q hI h2
 simp only [pv] at hp
 unfold pIdxa at hp
 split at hp
 ·split at hp
  ·rename_i hc
   cases hp
   obtain ⟨b,base,hb,hv⟩:=hx.of_ptr
   exact ⟨_,zr (s:=Instr.indexAt t (ev x) (ev i)) (fun _ _ _ _ _=>rfl) (by rw [hv,hi.of_int];exact wy ht hs hc.1 hc.2),by rw [Nat.add_assoc];exact .ptr hb⟩
  ·cases hp
 ·split at hp
  ·rename_i hc
   cases hp
   obtain ⟨b,base,hb,hv⟩:=hx.of_aptr
   exact ⟨_,zr (s:=Instr.indexAt t (ev x) (ev i)) (fun _ _ _ _ _=>rfl) (by rw [hv,hi.of_int];exact wy ht hs hc.1 hc.2),by rw [Nat.add_assoc,Nat.add_assoc];exact .aptr hb⟩
  ·cases hp
 ·split at hp
  ·rename_i hc
   cases hp
   obtain ⟨b,off,vs,hv,_⟩:=hx.of_ep
   exact ⟨_,zr (s:=Instr.indexAt t (ev x) (ev i)) (fun _ _ _ _ _=>rfl) (by rw [hv,hi.of_int];exact wy ht hs hc.1 hc.2),by rw [hv] at hx;exact z4x hx⟩
  ·cases hp
 ·cases hp
theorem z99 {t e:TypeId} {sz len:Nat} {ag:Bool} {x i:Operand} {X I:Opd} {as:List AV} {a:AV} (H:OpdOk G w ev oev)
 (ht:P.underlying t=some (.array len e)) (hs:tsz P e=some sz) (ha:tagg P e=some ag)
 (hX:compOpd x=some X) (hI:compOpd i=some I) (has:[X,I].mapM oev=some as) (hp:pv (.idxv len sz ag) as=some a):Has P G ev (.index t x i) w a:=by
 obtain ⟨p,q,h1,h2,rfl⟩:=yr has
 have hx:=H x X p hX h1
 have hi:=H i I q hI h2
 simp only [pv] at hp
 unfold pIdxv at hp
 split at hp
 ·split at hp
  ·rename_i hc
   obtain ⟨cs,hv,hl,hfl,hr⟩:=hx.of_agg
   obtain ⟨v,h3,h4⟩:=z3u (P:=P) hs ha hl hfl hr hp
   refine ⟨v,zr (s:=Instr.index t (ev x) (ev i)) (fun _ _ _ _ _=>rfl) ?_,h4⟩
   rw [hv,hi.of_int]
   unfold Instr.index
   simp [yh,zj ht,y9 hs,hc.1,hc.2,h3]
  ·cases hp
 ·cases hp
theorem VRel.of_str {G:Gh} {s:ByteArray} {v:Value} (h:VRel G w (.str s) v):v = .string s:=by cases h;rfl
theorem z52 {op:BinOp} {neg:Bool} {t yt:TypeId} {x y:Operand} {X Y:Opd} {as:List AV} {a:AV} (H:OpdOk G w ev oev)
 (hop:op=if neg then .neq else .eql) (ht:P.underlying t=some .string)
 (hX:compOpd x=some X) (hY:compOpd y=some Y) (has:[X,Y].mapM oev=some as) (hp:pv (.eqs neg) as=some a) :
 Has P G ev (.binOp op t x y yt) w a:=by
 obtain ⟨p,q,h1,h2,rfl⟩:=yr has
 have hx:=H x X p hX h1
 have hy:=H y Y q hY h2
 simp only [pv] at hp
 unfold pEqs at hp
 split at hp
 ·rename_i b b'
  have hr:(binOp (if neg then .neq else .eql) t (.string b) (.string b')).run P w = .ok (.bool (if neg then !(b.data.toList ==b'.data.toList) else b.data.toList ==b'.data.toList)) w:=by
   cases neg
   ·show (Op.stringOp .eql b b').run P w=_
    unfold Op.stringOp
    rw [ByteArray.toList_eq,ByteArray.toList_eq]
    rfl
   ·show (Op.stringOp .neq b b').run P w=_
    unfold Op.stringOp
    rw [ByteArray.toList_eq,ByteArray.toList_eq]
    rfl
  refine ⟨.bool (if neg then !(b.data.toList ==b'.data.toList) else b.data.toList ==b'.data.toList),zr (fun _ _ _ _ _=>rfl) ?_,by cases hp;exact .bool _⟩
  rw [hx.of_str,hy.of_str]
  simp only [Sem.run_bind,x7 (P:=P) (w:=w) (a := .string b) (by simp) (by simp),Result.andThen_ok]
  rw [hop,hr]
 ·cases hp
theorem z98 {t:TypeId} {x i:Operand} {X I:Opd} {as:List AV} {a:AV} (H:OpdOk G w ev oev)
 (ht:P.underlying t=some .string)
 (hX:compOpd x=some X) (hI:compOpd i=some I) (has:[X,I].mapM oev=some as) (hp:pv .idxs as=some a):Has P G ev (.index t x i) w a:=by
 obtain ⟨p,q,h1,h2,rfl⟩:=yr has
 have hx:=H x X p hX h1
 have hi:=H i I q hI h2
 simp only [pv] at hp
 unfold pIdxs at hp
 split at hp
 ·split at hp
  ·rename_i h0
   obtain ⟨b,hb,rfl⟩:=Option.map_eq_some_iff.1 hp
   refine ⟨.int .u8 b.toNat,zr (s:=Instr.index t (ev x) (ev i)) (fun _ _ _ _ _=>rfl) ?_,.int _ _⟩
   rw [hx.of_str,hi.of_int]
   unfold Instr.index
   simp [yh,zj ht,h0,hb]
  ·cases hp
 ·cases hp
theorem zb3 {t e:TypeId} {x:Operand} {X:Opd} {as:List AV} {a:AV} (H:OpdOk G w ev oev)
 (ht:P.underlying t=some (.slice e)) (hX:compOpd x=some X) (has:[X].mapM oev=some as) (hp:pv .len as=some a) :
 Has P G ev (.call { callee := .builtin .len,args := #[x],argTypes := #[t] }) w a:=by
 obtain ⟨p,h1,rfl⟩:=yg has
 have hx:=H x X p hX h1
 simp only [pv] at hp
 have key:∀ b n c,ev x = .slice b n c→Gives P ev (.call { callee := .builtin .len,args := #[x],argTypes := #[t] }) w (.int .i64 n):=fun b n c he=>by
  intro dst ty pos after guard
  simp [execOp,resolve,invoke,builtin,Builtin.len_,zj ht,he,goInt]
 unfold pLen at hp
 split at hp
 ·cases hp
  obtain ⟨b,c,hv,_⟩:=hx.of_sl_len
  exact ⟨_,key _ _ _ hv,.int _ _⟩
 ·cases hp
  obtain ⟨b,base,hb,⟨c,hv,hlen,_⟩ | ⟨rfl,z,hv⟩⟩:=hx.of_os
  ·exact ⟨_,key _ _ _ hv,.int _ _⟩
  ·exact ⟨_,key _ _ _ hv,.int _ _⟩
 ·cases hp
  exact ⟨_,key _ _ _ hx.of_nils,.int _ _⟩
 ·cases hp
theorem zay {t e:TypeId} {x:Operand} {X:Opd} {as:List AV} {a:AV} (H:OpdOk G w ev oev)
 (ht:P.underlying t=some (.slice e)) (hX:compOpd x=some X) (has:[X].mapM oev=some as) (hp:pv .cap as=some a) :
 Has P G ev (.call { callee := .builtin .cap,args := #[x],argTypes := #[t] }) w a:=by
 obtain ⟨p,h1,rfl⟩:=yg has
 have hx:=H x X p hX h1
 simp only [pv] at hp
 unfold pCap at hp
 split at hp
 ·cases hp
  refine ⟨.int .i64 0,?_,.int _ _⟩
  intro dst ty pos after guard
  simp [execOp,resolve,invoke,builtin,Builtin.cap_,zj ht,hx.of_nils,goInt]
 ·cases hp
theorem zb0 {i:Nat} {x:Operand} {X:Opd} {as:List AV} {a:AV} (H:OpdOk G w ev oev)
 (hX:compOpd x=some X) (has:[X].mapM oev=some as) (hp:pv (.ext i) as=some a):Has P G ev (.extract x i) w a:=by
 obtain ⟨p,h1,rfl⟩:=yg has
 have hx:=H x X p hX h1
 cases p <;> simp only [pv,reduceCtorEq] at hp
 rename_i vs
 obtain ⟨cs,hv,hl,hr⟩:=hx.of_tup
 obtain ⟨hk,rfl⟩:=List.getElem?_eq_some_iff.1 hp
 have hk':i<cs.length:=hl ▸ hk
 refine ⟨cs[i],zr (s:=Instr.extract (ev x) i) (fun _ _ _ _ _=>rfl) ?_,hr i hk hk'⟩
 rw [hv]
 unfold Instr.extract
 have:cs.toArray[i]? = some cs[i]:=by simp [hk']
 simp only [this]
 rfl
theorem z9b {t:TypeId} {x:Operand} {X:Opd} {as:List AV} {a:AV} {d:TypeDesc} (H:OpdOk G w ev oev) (ht:P.underlying t=some d) (hd:∀ ms,d ≠ .interface ms)
 (hX:compOpd x=some X) (has:[X].mapM oev=some as) (hp:pv (.mkif t) as=some a):Has P G ev (.makeInterface t x) w a:=by
 obtain ⟨p,h1,rfl⟩:=yg has
 have hx:=H x X p hX h1
 simp only [pv,Option.some.injEq] at hp
 subst hp
 refine ⟨.iface t (ev x),zr (s:=Instr.makeInterface t (ev x)) (fun _ _ _ _ _=>rfl) ?_,.iface hx⟩
 unfold Instr.makeInterface
 simp only [Sem.run_bind,zj ht,Result.andThen_ok]
 cases d <;> first | exact absurd rfl (hd _) | rfl
end
end Go.Am
namespace Go.Am
section
variable {P:Program} {w:World} {G:Gh} {ev:Operand→Value} {oev:Opd→Option AV}
theorem xk {k:IntKind} {i:Int} {y:Nat} {code:BoundsCode} (h0:0≤i) (h1:i≤(y:Int)):(Instr.sliceBound (.int k i) y code).run P w = .ok i.toNat w:=by
 unfold Instr.sliceBound
 simp [yh,h0,h1]
theorem wn {t e:TypeId} {sz:Nat} (ht:P.underlying t=some (.slice e)) (hs:tsz P e=some sz) {a:Option Addr} {n c:Nat} (hn:n≤c)
 {lo hi:Option Value} {l h:Int} (hlo:(lo=none∧l=0)∨∃ k,lo=some (.int k l)) (hhi:(hi=none∧h=n)∨∃ k,hi=some (.int k h))
 (h0:0≤l) (h1:l≤h) (h2:h≤(n:Int)) :
 (Instr.sliceAt t (.slice a n c) lo hi none).run P w = .ok (.slice (if c=l.toNat then a else a.map (·.add (l.toNat*sz))) (h.toNat - l.toNat) (c - l.toNat)) w:=by
 have hb:(Instr.sliceBounds true n c lo hi none).run P w = .ok (l.toNat,h.toNat,c) w:=by
  unfold Instr.sliceBounds
  rcases hlo with ⟨rfl,rfl⟩ | ⟨k,rfl⟩ <;> rcases hhi with ⟨rfl,rfl⟩ | ⟨k',rfl⟩
  ·simp
  ·simp [xk (P:=P) (w:=w) (k:=k') (i:=h) (y:=c) (by omega) (by omega)]
  ·simp [xk (P:=P) (w:=w) (k:=k) (i:=l) (y:=n) h0 h1]
  ·simp [xk (P:=P) (w:=w) (k:=k') (i:=h) (y:=c) (by omega) (by omega),xk (P:=P) (w:=w) (k:=k) (i:=l) (y:=h.toNat) h0 (by omega)]
 unfold Instr.sliceAt Instr.slice
 simp [zj ht,hb,y9 hs]
theorem uf {sz:Nat} {x a:AV} {v:Value} {l:Int} {h:Option Int} (hx:VRel G w x v) (hp:pSlice sz x l h=some a) :
 ∃ (b:Option Addr) (n c:Nat),v = .slice b n c∧n≤c∧0≤l∧l≤h.getD n∧h.getD n≤(n:Int) ∧
   VRel G w a (.slice (if c=l.toNat then b else b.map (·.add (l.toNat*sz))) ((h.getD n).toNat - l.toNat) (c - l.toNat)):=by
 unfold pSlice at hp
 split at hp
 ·rename_i esz' es
  simp only at hp
  split at hp
  ·rename_i hc
   obtain ⟨rfl,h0,h1,h2⟩:=hc
   cases hp
   by_cases hne:es=[]
   ·subst hne
    obtain ⟨b,c,hv,hle⟩:=hx.of_sl_len
    refine ⟨b,_,c,hv,hle,h0,h1,h2,?_⟩
    have e:(List.drop l.toNat (List.take (h.getD ((([]:List (List AV)).length:Nat):Int)).toNat []))=([]:List (List AV)):=by simp
    rw [e]
    simp at h1 h2
    have:(h.getD ((([]:List (List AV)).length:Nat):Int)).toNat - l.toNat=0:=by simp;omega
    rw [this]
    exact .sl0
   ·obtain ⟨b,off,c,vs,hv,hI,hcap,hl,hf,hcell,hr⟩:=hx.of_sl hne
    refine ⟨_,_,c,hv,hcap,h0,h1,h2,?_⟩
    generalize hh:h.getD (es.length:Int)=H at *
    have hlen:((es.take H.toNat).drop l.toNat).length=H.toNat - l.toNat:=by simp;omega
    by_cases he:((es.take H.toNat).drop l.toNat)=[]
    ·rw [he] at hlen ⊢
     simp at hlen
     rw [show H.toNat - l.toNat=0 by omega]
     exact .sl0
    ·have hne':c≠l.toNat:=by
      intro e;apply he;apply List.eq_nil_of_length_eq_zero;rw [hlen];omega
     rw [if_neg hne',Option.map_some,x6,←hlen]
     refine .sl (fun i j=>vs (l.toNat+i) j) hI he (by rw [hlen];omega) (fun cs hcs=>hl cs (List.mem_of_mem_take (List.mem_of_mem_drop hcs)))
      (fun cs hcs=>hf cs (List.mem_of_mem_take (List.mem_of_mem_drop hcs))) (fun i j hi hj => ?_) (fun i j hi hj => ?_)
     ·rw [hlen] at hi
      have:=hcell (l.toNat+i) j (by omega) hj
      rw [Nat.add_mul] at this
      rw [←this];congr 2;omega
     ·have hi':=hi
      rw [hlen] at hi'
      have e:((es.take H.toNat).drop l.toNat)[i]'hi=es[l.toNat+i]'(by omega):=by simp
      have:=hr (l.toNat+i) j (by omega) (by rw [←e];exact hj)
      simp only [e];exact this
  ·cases hp
 ·rename_i id esz' off len
  simp only at hp
  split at hp
  ·rename_i hc
   obtain ⟨rfl,h0,h1,h2⟩:=hc
   cases hp
   obtain ⟨b,base,hb,⟨c,hv,hlen,ty,n,hsh,hroom⟩ | ⟨rfl,z,hv⟩⟩:=hx.of_os
   ·refine ⟨_,_,c,hv,hlen,h0,h1,h2,?_⟩
    generalize hh:h.getD (len:Int)=H at *
    by_cases he:c=l.toNat
    ·rw [if_pos he,show H.toNat - l.toNat=0 by omega,show c - l.toNat=0 by omega]
     exact .os0 hb
    ·rw [if_neg he,Option.map_some,x6,show base+off*esz'+l.toNat*esz'=base+(off+l.toNat)*esz' by rw [Nat.add_mul];omega]
     refine .os hb (by omega) ⟨ty,n,hsh,?_⟩
     rw [show off+l.toNat+(c - l.toNat)=off+c by omega];exact hroom
   ·refine ⟨_,_,_,hv,Nat.le_refl _,h0,h1,h2,?_⟩
    simp at h1 h2
    have e1:l.toNat=0:=by omega
    have e2:(h.getD ((0:Nat):Int)).toNat=0:=by simp;omega
    simp only [e1,e2,if_true,Nat.sub_self]
    exact .os0 hb
  ·cases hp
 ·simp only at hp
  split at hp
  ·rename_i hc
   obtain ⟨h0,h1,h2⟩:=hc
   cases hp
   refine ⟨_,_,_,hx.of_nils,Nat.le_refl _,h0,h1,h2,?_⟩
   have e1:l.toNat=0:=by omega
   have e2:(h.getD ((0:Nat):Int)).toNat=0:=by simp;omega
   simp only [e1,e2,if_true,Nat.sub_self]
   exact .nils
  ·cases hp
 ·cases hp
theorem ud {t e:TypeId} {sz:Nat} {x:Operand} {lo hi:Option Operand} {X:Opd} {xs:List Opd} {as:List AV} {a:AV} {pk:PK} (H:OpdOk G w ev oev)
 (ht:P.underlying t=some (.slice e)) (hs:tsz P e=some sz) (hX:compOpd x=some X)
 (hc:(lo=none∧hi=none∧xs=[X]∧pk = .slice sz false false) ∨
   (∃ l L,lo=some l∧hi=none∧compOpd l=some L∧xs=[X,L]∧pk = .slice sz true false) ∨
   (∃ h U,lo=none∧hi=some h∧compOpd h=some U∧xs=[X,U]∧pk = .slice sz false true) ∨
   (∃ l L h U,lo=some l∧hi=some h∧compOpd l=some L∧compOpd h=some U∧xs=[X,L,U]∧pk = .slice sz true true))
 (has:xs.mapM oev=some as) (hp:pv pk as=some a):Has P G ev (.slice t x lo hi none) w a:=by
 rcases hc with ⟨rfl,rfl,rfl,rfl⟩ | ⟨l,L,rfl,rfl,hL,rfl,rfl⟩ | ⟨h,U,rfl,rfl,hU,rfl,rfl⟩ | ⟨l,L,h,U,rfl,rfl,hL,hU,rfl,rfl⟩
 ·obtain ⟨p,h1,rfl⟩:=yg has
  obtain ⟨b,n,c,hv,hnc,h0,h2,h3,hr⟩:=uf (H x X p hX h1) hp
  refine ⟨_,zr (s:=Instr.sliceAt t (ev x) none none none) (fun _ _ _ _ _=>rfl) (by rw [hv];exact wn ht hs hnc (.inl ⟨rfl,rfl⟩) (.inl ⟨rfl,rfl⟩) h0 h2 h3),hr⟩
 ·obtain ⟨p,q,h1,h1',rfl⟩:=yr has
  have hl:=H l L q hL h1'
  cases q <;> simp only [pv,reduceCtorEq] at hp
  obtain ⟨b,n,c,hv,hnc,h0,h2,h3,hr⟩:=uf (H x X p hX h1) hp
  refine ⟨_,zr (s:=Instr.sliceAt t (ev x) (some (ev l)) none none) (fun _ _ _ _ _=>rfl) (by rw [hv,hl.of_int];exact wn ht hs hnc (.inr ⟨_,rfl⟩) (.inl ⟨rfl,rfl⟩) h0 h2 h3),hr⟩
 ·obtain ⟨p,q,h1,h1',rfl⟩:=yr has
  have hl:=H h U q hU h1'
  cases q <;> simp only [pv,reduceCtorEq] at hp
  obtain ⟨b,n,c,hv,hnc,h0,h2,h3,hr⟩:=uf (H x X p hX h1) hp
  refine ⟨_,zr (s:=Instr.sliceAt t (ev x) none (some (ev h)) none) (fun _ _ _ _ _=>rfl) (by rw [hv,hl.of_int];exact wn ht hs hnc (.inl ⟨rfl,rfl⟩) (.inr ⟨_,rfl⟩) h0 h2 h3),hr⟩
 ·obtain ⟨p,q,r,h1,h1',h1'',rfl⟩:=zaj has
  have hl:=H l L q hL h1'
  have hu:=H h U r hU h1''
  cases q <;> simp only [pv,reduceCtorEq] at hp
  cases r <;> simp only [pv,reduceCtorEq] at hp
  obtain ⟨b,n,c,hv,hnc,h0,h2,h3,hr⟩:=uf (H x X p hX h1) hp
  refine ⟨_,zr (s:=Instr.sliceAt t (ev x) (some (ev l)) (some (ev h)) none) (fun _ _ _ _ _=>rfl) (by rw [hv,hl.of_int,hu.of_int];exact wn ht hs hnc (.inr ⟨_,rfl⟩) (.inr ⟨_,rfl⟩) h0 h2 h3),hr⟩
end
end Go.Am
namespace Go.Am
theorem wg:∀ (off:Nat) (vs cs r:List AV),splice off vs cs=some r →
 r.length=cs.length∧off+vs.length≤cs.length∧∀ k,r[k]? = if off≤k∧k<off+vs.length then vs[k - off]? else cs[k]?
 | 0,[],cs,r,h=>by simp [splice] at h;subst h;exact ⟨rfl,by simp,fun k=>by simp⟩
 | 0,v::vs,c::cs,r,h=>by
   simp only [splice,Option.map_eq_some_iff] at h
   obtain ⟨r',h1,rfl⟩:=h
   obtain ⟨e1,e2,e3⟩:=wg 0 vs cs r' h1
   refine ⟨by simp [e1],by simp at e2 ⊢;omega,fun k => ?_⟩
   cases k with
   | zero=>simp
   | succ k=>have:=e3 k;simp at this ⊢;exact this
 | 0,v::vs,[],r,h=>by simp [splice] at h
 | n+1,vs,c::cs,r,h=>by
   simp only [splice,Option.map_eq_some_iff] at h
   obtain ⟨r',h1,rfl⟩:=h
   obtain ⟨e1,e2,e3⟩:=wg n vs cs r' h1
   refine ⟨by simp [e1],by simp at e2 ⊢;omega,fun k => ?_⟩
   cases k with
   | zero=>simp
   | succ k =>
     have:=e3 k
     simp only [List.getElem?_cons_succ,this]
     by_cases hc:n≤k∧k<n+vs.length
     ·rw [if_pos hc,if_pos (by omega),Nat.add_sub_add_right]
     ·rw [if_neg hc,if_neg (by omega)]
 | n+1,vs,[],r,h=>by cases vs <;> simp [splice] at h
theorem z3j (off:Nat):∀ (l:List Value) (j:Nat) (cs:Array Value),off+j+l.length≤cs.size →
 ((l.zipIdx j).foldl (fun (cs:Array Value) (p:Value×Nat)=>cs.setIfInBounds (off+p.2) p.1) cs).size=cs.size ∧
 ∀ k,((l.zipIdx j).foldl (fun (cs:Array Value) (p:Value×Nat)=>cs.setIfInBounds (off+p.2) p.1) cs)[k]? = if off+j≤k∧k<off+j+l.length then l[k - (off+j)]? else cs[k]?
 | [],j,cs,_=>by simp;intro k h1 h2;omega
 | v::l,j,cs,h=>by
   simp only [List.zipIdx_cons,List.foldl_cons]
   simp only [List.length_cons] at h
   obtain ⟨e1,e2⟩:=z3j off l (j+1) (cs.setIfInBounds (off+j) v) (by simp;omega)
   refine ⟨by rw [e1];simp,fun k => ?_⟩
   rw [e2 k]
   simp only [List.length_cons]
   by_cases hk:k=off+j
   ·subst hk
    rw [if_neg (by omega),if_pos (by omega)]
    have:off+j<cs.size:=by omega
    simp [this]
   ·by_cases hc:off+(j+1)≤k∧k<off+(j+1)+l.length
    ·rw [if_pos hc,if_pos (by omega)]
     rw [show k - (off+j)=(k - (off+(j+1)))+1 by omega];simp
    ·rw [if_neg hc,if_neg (by omega)]
     rw [Array.getElem?_setIfInBounds_ne (by omega)]
theorem z2i (off:Nat) (v:Value) (cs:Array Value) (h:off+v.cells.size≤cs.size) :
 (v.cells.zipIdx.foldl (fun cs (c,j)=>cs.setIfInBounds (off+j) c) cs).size=cs.size ∧
 ∀ k,(v.cells.zipIdx.foldl (fun cs (c,j)=>cs.setIfInBounds (off+j) c) cs)[k]? = if off≤k∧k<off+v.cells.size then v.cells[k - off]? else cs[k]? := by
 have:=z3j off v.cells.toList 0 cs (by simpa using h)
 rw [←Array.foldl_toList,Array.toList_zipIdx]
 simpa using this
section
variable {P:Program} {w:World} {G:Gh} {ev:Operand→Value} {oev:Opd→Option AV}
theorem VRel.cells_rel {a:AV} {v:Value} (h:VRel G w a v) (ht:∀ vs,a ≠ .tup vs):a.cells.length=v.cells.size∧(∀ c ∈ a.cells,c.flat=true) ∧
 ∀ (k:Nat) (c:AV),a.cells[k]? = some c→∃ x,v.cells[k]? = some x∧VRel G w c x:=by
 by_cases hf:a.flat=true
 ·obtain ⟨e1,e2⟩:=h.cells hf
  rw [e1,e2]
  refine ⟨rfl,by simpa using hf,fun k c hc => ?_⟩
  cases k with
  | zero=>simp at hc;subst hc;exact ⟨v,rfl,h⟩
  | succ k=>simp at hc
 ·cases a <;> simp [AV.flat] at hf
  ·obtain ⟨cs,rfl,hl,hfl,hr⟩:=h.of_agg
   refine ⟨by simpa [AV.cells,Value.cells] using hl,hfl,fun k c hc => ?_⟩
   simp only [AV.cells] at hc
   obtain ⟨hk,rfl⟩:=List.getElem?_eq_some_iff.1 hc
   exact ⟨cs[k]'(hl ▸ hk),by simp [Value.cells,hl ▸ hk],hr k hk (hl ▸ hk)⟩
  ·exact absurd rfl (ht _)
def CRel (G:Gh) (w:World) (as:List AV) (vs:Array Value):Prop :=
 as.length=vs.size∧(∀ c ∈ as,c.flat=true)∧∀ (k:Nat) (c:AV),as[k]? = some c→∃ x,vs[k]? = some x∧VRel G w c x
theorem CRel.agg {as:List AV} {vs:Array Value} (h:CRel G w as vs):VRel G w (.agg as) (.agg vs):=by
 obtain ⟨h1,h2,h3⟩:=h
 have:=VRel.agg (G:=G) (w:=w) (cells:=as) (cs:=vs.toList) (by simpa using h1) h2 (fun k hk hk'=>by
  obtain ⟨x,hx,hr⟩:=h3 k _ (List.getElem?_eq_getElem hk)
  have e:vs.toList[k]? = some x:=by simpa using hx
  rw [List.getElem?_eq_getElem hk'] at e
  cases e;exact hr)
 simpa using this
theorem z6c {off:Nat} {a:AV} {v:Value} {cells cells':List AV} {cs:Array Value} (ht:∀ vs,a ≠ .tup vs) (hv:VRel G w a v) (hc:CRel G w cells cs)
 (hs:splice off a.cells cells=some cells'):off+v.cells.size≤cs.size∧CRel G w cells' (v.cells.zipIdx.foldl (fun cs (c,j)=>cs.setIfInBounds (off+j) c) cs):=by
 obtain ⟨e1,e2,e3⟩:=wg _ _ _ _ hs
 obtain ⟨v1,v2,v3⟩:=hv.cells_rel ht
 obtain ⟨c1,c2,c3⟩:=hc
 have hle:off+v.cells.size≤cs.size:=by omega
 obtain ⟨f1,f2⟩:=z2i off v cs hle
 refine ⟨hle,by rw [e1,f1,c1],fun c hcm => ?_,fun k c hk => ?_⟩
 ·obtain ⟨k,hk⟩:=List.getElem?_of_mem hcm
  rw [e3 k] at hk
  split at hk
  ·exact v2 c (List.mem_of_getElem? hk)
  ·exact c2 c (List.mem_of_getElem? hk)
 ·rw [e3 k] at hk
  rw [f2 k,←v1]
  split at hk
  ·rename_i h;rw [if_pos h];exact v3 _ _ hk
  ·rename_i h;rw [if_neg h];exact c3 _ _ hk
theorem uy (place:Nat→Option (Nat×Nat)):∀ (parts:List (Nat×Value)) (ps:List (Nat×Nat)) (as:List AV) (cells cells':List AV) (cs:Array Value),
 Rels (fun (p:Nat×Nat) (q:Nat×Value)=>place q.1=some p) ps parts→Rels (fun (a:AV) (q:Nat×Value)=>VRel G w a q.2) as parts→CRel G w cells cs →
 pBuild cells ps as=some cells'→∃ cs',Instr.fill place cs parts=some cs'∧CRel G w cells' cs'
 | [],ps,as,cells,cells',cs,hp,ha,hc,h=>by
   cases hp;cases ha
   simp [pBuild] at h;subst h
   exact ⟨cs,rfl,hc⟩
 | (i,v)::parts,_,_,cells,cells',cs,hp,ha,hc,h=>by
   cases hp with
   | cons hp1 hp2 =>
     cases ha with
     | cons ha1 ha2 =>
       rename_i p ps a as
       obtain ⟨off,sz⟩:=p
       simp only [pBuild] at h
       split at h
       ·rename_i hsz
        obtain ⟨hsz,htup⟩:=hsz
        obtain ⟨cells1,h1,h2⟩:=z9 h
        have hta:∀ vs,a ≠ .tup vs:=fun vs e=>by subst e;cases htup
        obtain ⟨hle,hc1⟩:=z6c hta ha1 hc h1
        have hlen:=(ha1.cells_rel hta).1
        obtain ⟨cs',h3,h4⟩:=uy place parts ps as cells1 cells' _ hp2 ha2 hc1 h2
        refine ⟨cs',?_,h4⟩
        simp only at hp1 hlen hle
        simp only [Instr.fill,hp1]
        rw [if_neg (by
         simp only [ne_eq,Bool.or_eq_true,decide_eq_true_eq,not_or,Decidable.not_not]
         omega)]
        exact h3
       ·cases h
theorem z4i {z:List AV} {v:Array Value} (h:v.toList.mapM AV.ofCell=some z):CRel G w z v:=by
 obtain ⟨h1,h2⟩:=x8 h
 refine ⟨by simpa using h1.symm,fun c hc => ?_,fun k c hk => ?_⟩
 ·obtain ⟨k,hk,rfl⟩:=List.getElem_of_mem hc
  exact (we (G:=G) (w:=w) (h2 k (by rw [h1];exact hk) hk)).2
 ·obtain ⟨hk',rfl⟩:=List.getElem?_eq_some_iff.1 hk
  have hk2:k<v.toList.length:=by rw [h1];exact hk'
  have hv:v[k]? = some v.toList[k]:=by rw [←List.getElem?_eq_getElem hk2];simp
  exact ⟨_,hv,(we (h2 k hk2 hk')).1⟩
theorem xg {α:Type} {f:α→Option Opd} {g:α→Operand} (H:OpdOk G w ev oev) (hf:∀ x y,f x=some y→compOpd (g x)=some y):∀ (l:List α) (xs:List Opd) (as:List AV),
 l.mapM f=some xs→xs.mapM oev=some as→Rels (fun a x=>VRel G w a (ev (g x))) as l
 | [],xs,as,h1,h2=>by
   simp at h1;subst h1;simp at h2;subst h2;exact .nil
 | x::l,xs,as,h1,h2=>by
   simp only [List.mapM_cons,Option.bind_eq_bind,Option.pure_def] at h1
   obtain ⟨y,hy,h1⟩:=z9 h1
   obtain ⟨ys,hys,h1⟩:=z9 h1
   simp at h1;subst h1
   simp only [List.mapM_cons,Option.bind_eq_bind,Option.pure_def] at h2
   obtain ⟨a,ha,h2⟩:=z9 h2
   obtain ⟨as',has',h2⟩:=z9 h2
   simp at h2;subst h2
   exact .cons (H _ _ _ (hf x y hy) ha) (xg H hf l ys as' hys has')
theorem Rels.map_right {α β γ:Type} {R:α→γ→Prop} {f:β→γ}:∀ {as:List α} {bs:List β},Rels (fun a b=>R a (f b)) as bs→Rels R as (bs.map f)
 | _,_,.nil => .nil
 | _,_,.cons h t => .cons h (Rels.map_right t)
theorem z0o {α:Type} {f:α→Nat} {pl:List (Nat×Nat)}:∀ (l:List α) (ps:List (Nat×Nat)),l.mapM (fun x=>pl[f x]?)=some ps→Rels (fun p x=>pl[f x]? = some p) ps l
 | [],ps,h=>by simp at h;subst h;exact .nil
 | x::l,ps,h=>by
   simp only [List.mapM_cons,Option.bind_eq_bind,Option.pure_def] at h
   obtain ⟨y,hy,h⟩:=z9 h
   obtain ⟨ys,hys,h⟩:=z9 h
   simp at h;subst h
   exact .cons hy (z0o l ys hys)
theorem xj {t:TypeId} {z:List AV} (h:tzero P t=some z):∃ v,(zeroValue t).run P w = .ok v w∧CRel G w z v.cells:=by
 obtain ⟨v,h1,h2⟩:=z1i (w:=w) h
 exact ⟨v,h1,z4i h2⟩
theorem qj:∀ (fs:List Field) (pl:List (Nat×Nat)),fs.mapM (fun f=>(tsz P f.type).bind fun n=>some (f.offset,n))=some pl →
 ∀ (w:World),(fs.mapM (fun f=>(do pure (f.offset,←sizeOf f.type):Sem (Nat×Nat)))).run P w = .ok pl w
 | [],pl,h,w=>by simp at h;subst h;simp
 | f::fs,pl,h,w=>by
   simp only [List.mapM_cons,Option.bind_eq_bind,Option.pure_def] at h
   obtain ⟨y,hy,h⟩:=z9 h
   obtain ⟨ys,hys,h⟩:=z9 h
   obtain ⟨n,hn,hy⟩:=z9 hy
   simp at h hy;subst h;subst hy
   simp only [List.mapM_cons,Sem.run_bind,y9 hn,Result.andThen_ok,Sem.run_pure,qj fs ys hys w]
theorem z72 {t:TypeId} {parts:Array (Nat×Operand)} {z:List AV} {pl ps:List (Nat×Nat)} {xs:List Opd} {as:List AV} {a:AV} (H:OpdOk G w ev oev)
 (hz:tzero P t=some z) (hpl:places P t=some pl) (hps:parts.toList.mapM (fun x=>pl[x.1]?)=some ps) (hxs:parts.toList.mapM (fun x=>compOpd x.2)=some xs)
 (has:xs.mapM oev=some as) (hp:pv (.build z ps) as=some a):Has P G ev (.build t parts) w a:=by
 simp only [pv,Option.map_eq_some_iff] at hp
 obtain ⟨cells,hb,rfl⟩:=hp
 obtain ⟨zv,hz1,hz2⟩:=xj (G:=G) (w:=w) hz
 have hrel:Rels (fun (a:AV) (q:Nat×Operand)=>VRel G w a (ev q.2)) as parts.toList :=
  xg H (f:=fun x:Nat×Operand=>compOpd x.2) (g:=fun x=>x.2) (fun x y h=>h) parts.toList xs as hxs has
 have hrel2:=Rels.map_right (R:=fun (a:AV) (q:Nat×Value)=>VRel G w a q.2) (f:=fun x:Nat×Operand=>(x.1,ev x.2)) hrel
 have hpr:=z0o (f:=fun x:Nat×Operand=>x.1) (pl:=pl) parts.toList ps hps
 have hpr2:=Rels.map_right (R:=fun (p:Nat×Nat) (q:Nat×Value)=>pl[q.1]? = some p) (f:=fun x:Nat×Operand=>(x.1,ev x.2)) hpr
 have hm:(parts.map fun (i,x)=>(i,ev x)).toList=parts.toList.map (fun x:Nat×Operand=>(x.1,ev x.2)):=by simp
 suffices h:∃ v,(Instr.build t (parts.map fun (i,x)=>(i,ev x))).run P w = .ok (.agg v) w∧CRel G w cells v by
  obtain ⟨v,h1,h2⟩:=h
  exact ⟨_,zr (s:=Instr.build t (parts.map fun (i,x)=>(i,ev x))) (fun _ _ _ _ _=>rfl) h1,h2.agg⟩
 unfold places at hpl
 simp only [Option.bind_eq_bind,Option.pure_def] at hpl
 obtain ⟨d,hd,hpl⟩:=z9 hpl
 unfold Instr.build
 simp only [Sem.run_bind,hz1,Result.andThen_ok,zj hd]
 split at hpl
 ·rename_i fs
  obtain ⟨cs',hf,hc⟩:=uy (fun i=>(pl.toArray)[i]?) _ _ _ _ _ _ (hpr2.mono fun p q hq=>by simpa using hq) hrel2 hz2 hb
  refine ⟨cs',?_,hc⟩
  have hfp:(fs.mapM fun f=>(do pure (f.offset,←sizeOf f.type):Sem (Nat×Nat))).run P w = .ok pl.toArray w:=by
   rw [Array.mapM_eq_mapM_toList]
   simp only [Sem.run_map,qj fs.toList pl hpl w,Result.andThen_ok]
  simp only [hfp,Result.andThen_ok,hm,Sem.run_bind]
  rw [hf]
  rfl
 ·rename_i n e
  obtain ⟨s,hs,hpl⟩:=z9 hpl
  simp at hpl
  obtain ⟨cs',hf,hc⟩:=uy (fun i=>some (i*s,s)) _ _ _ _ _ _ (hpr2.mono fun p q hq=>by
   subst hpl
   obtain ⟨hk,he⟩:=List.getElem?_eq_some_iff.1 hq
   simp at he
   rw [he]) hrel2 hz2 hb
  refine ⟨cs',?_,hc⟩
  simp only [Sem.run_bind,y9 hs,Result.andThen_ok,hm]
  rw [hf]
  rfl
 ·cases hpl
theorem z9a {f:Nat} {caps:Array Operand} {xs:List Opd} {as:List AV} {a:AV} (H:OpdOk G w ev oev)
 (hxs:caps.toList.mapM compOpd=some xs) (has:xs.mapM oev=some as) (hp:pv (.mkfn f) as=some a):Has P G ev (.makeFunc (.func f) #[] caps) w a:=by
 have:pv (.mkfn f) as=some (.fn f as):=by cases as <;> rfl
 rw [this] at hp
 cases hp
 have hrel:=xg H (f:=compOpd) (g:=fun x=>x) (fun x y h=>h) caps.toList xs as hxs has
 refine ⟨.func (.func f) #[] (caps.toList.map ev).toArray,?_,?_⟩
 ·intro dst ty pos after guard
  have e:caps.map ev=(caps.toList.map ev).toArray:=by
   rw [←List.map_toArray]
  simp [execOp,Instr.makeFunc,e]
 ·have hr:=Rels.map_right (R:=VRel G w) (f:=ev) hrel
  refine .fn hr.length fun k hk hk' => ?_
  obtain ⟨b,hb,hv⟩:=hr.get k _ (List.getElem?_eq_getElem hk)
  rw [List.getElem?_eq_getElem hk'] at hb
  cases hb;exact hv
theorem z1d (mx:Bool):∀ (rest:List AV) (vs:List Value) (p a:AV) (v:Value),Rels (VRel G w) rest vs→VRel G w p v→pMin mx p rest=some a →
 ∃ r,(vs.foldlM (if mx then Builtin.max2 else Builtin.min2) v).run P w = .ok r w∧VRel G w a r
 | [],vs,p,a,v,hr,hv,h=>by
   cases hr
   simp [pMin] at h;subst h
   exact ⟨v,by simp,hv⟩
 | q::rest,_,p,a,v,hr,hv,h=>by
   cases hr with
   | cons h1 h2 =>
     rename_i x xs
     unfold pMin at h
     split at h
     ·rename_i heq;cases heq
     ·rename_i k n k' m r heq
      cases heq
      split at h
      ·rename_i hk
       subst hk
       have e1:=hv.of_int;have e2:=h1.of_int
       subst e1 e2
       obtain ⟨z,hz,hzr⟩:=z1d mx _ _ _ a (.int k (if mx then (if m>n then m else n) else (if m<n then m else n))) h2 (.int _ _) h
       refine ⟨z,?_,hzr⟩
       rw [List.foldlM_cons,Sem.run_bind]
       cases mx
       ·simpa [Builtin.min2] using hz
       ·simpa [Builtin.max2] using hz
      ·cases h
     ·cases h
theorem z1a {mx:Bool} {args:Array Operand} {ats:Array TypeId} {xs:List Opd} {as:List AV} {a:AV} (H:OpdOk G w ev oev)
 (hxs:args.toList.mapM compOpd=some xs) (has:xs.mapM oev=some as) (hp:pv (.minmax mx) as=some a) :
 Has P G ev (.call { callee := .builtin (if mx then .max else .min),args,argTypes:=ats }) w a:=by
 have hrel:=xg H (f:=compOpd) (g:=fun x=>x) (fun x y h=>h) args.toList xs as hxs has
 have hr:=Rels.map_right (R:=VRel G w) (f:=ev) hrel
 cases as with
 | nil=>cases hp
 | cons p r =>
   have hp':pMin mx p r=some a:=by cases r <;> exact hp
   generalize hl:args.toList.map ev=l at hr
   cases hr with
   | cons h1 h2 =>
     rename_i v vs
     obtain ⟨z,hz,hzr⟩:=z1d (P:=P) mx r vs p a v h2 h1 hp'
     refine ⟨z,?_,hzr⟩
     intro dst ty pos after guard
     have e:(args.map ev).toList=v::vs:=by rw [Array.toList_map,hl]
     cases mx
     ·simp only [Bool.false_eq_true,if_false] at hz ⊢
      simp [execOp,resolve,invoke,builtin,Builtin.min_,e,hl,hz]
     ·simp only [if_true] at hz ⊢
      simp [execOp,resolve,invoke,builtin,Builtin.max_,e,hl,hz]
end
end Go.Am
namespace Go.Am
section
variable {P:Program} {w:World} {G:Gh} {ev:Operand→Value} {oev:Opd→Option AV}
theorem zd3 {op:BinOp} {t yt:TypeId} {x y:Operand} {pk:PK} {xs:List Opd} {as:List AV} {a:AV} (H:OpdOk G w ev oev) (hcst:∀ v,ev (.const v)=v)
 (hc:compBin P op t x y=some (pk,xs)) (has:xs.mapM oev=some as) (hp:pv pk as=some a):Has P G ev (.binOp op t x y yt) w a:=by
 unfold compBin at hc
 simp only [Option.bind_eq_bind,Option.pure_def] at hc
 obtain ⟨d,hd,hc⟩:=z9 hc
 split at hc
 ·obtain ⟨X,hX,hc⟩:=z9 hc
  obtain ⟨Y,hY,hc⟩:=z9 hc
  cases hc
  exact z51 H rfl hd hX hY has hp
 ·obtain ⟨X,hX,hc⟩:=z9 hc
  obtain ⟨Y,hY,hc⟩:=z9 hc
  cases hc
  exact z51 H rfl hd hX hY has hp
 ·split at hc
  ·obtain ⟨X,hX,hc⟩:=z9 hc
   cases hc
   exact uc H rfl hX has hp (.inl ⟨rfl,_,hd,hcst _⟩)
  ·cases hc
 ·split at hc
  ·obtain ⟨X,hX,hc⟩:=z9 hc
   cases hc
   exact uc H rfl hX has hp (.inl ⟨rfl,_,hd,hcst _⟩)
  ·cases hc
 ·split at hc
  ·obtain ⟨X,hX,hc⟩:=z9 hc
   cases hc
   exact uc H rfl hX has hp (.inr ⟨rfl,_,hd,hcst _⟩)
  ·cases hc
 ·split at hc
  ·obtain ⟨X,hX,hc⟩:=z9 hc
   cases hc
   exact uc H rfl hX has hp (.inr ⟨rfl,_,hd,hcst _⟩)
  ·cases hc
 ·obtain ⟨⟨k1,k2⟩,h2,hc⟩:=z9 hc
  obtain ⟨X,hX,hc⟩:=z9 hc
  obtain ⟨Y,hY,hc⟩:=z9 hc
  cases hc
  exact z50 H rfl hd h2 hX hY has hp
 ·obtain ⟨⟨k1,k2⟩,h2,hc⟩:=z9 hc
  obtain ⟨X,hX,hc⟩:=z9 hc
  obtain ⟨Y,hY,hc⟩:=z9 hc
  cases hc
  exact z50 H rfl hd h2 hX hY has hp
 ·obtain ⟨X,hX,hc⟩:=z9 hc
  obtain ⟨Y,hY,hc⟩:=z9 hc
  cases hc
  exact z52 H rfl hd hX hY has hp
 ·obtain ⟨X,hX,hc⟩:=z9 hc
  obtain ⟨Y,hY,hc⟩:=z9 hc
  cases hc
  exact z52 H rfl hd hX hY has hp
 ·obtain ⟨X,hX,hc⟩:=z9 hc
  obtain ⟨Y,hY,hc⟩:=z9 hc
  cases hc
  exact zax H hX hY has hp
 ·cases hc
theorem xm {α:Type} {a:Array α} {x:α} (h:a.toList=[x]):a = #[x]:=by
 rw [←Array.toArray_toList (xs:=a),h]
theorem z4b {c:Call} {pk:PK} {xs:List Opd} {as:List AV} {a:AV} (H:OpdOk G w ev oev)
 (hc:compCallPure P c=some (pk,xs)) (has:xs.mapM oev=some as) (hp:pv pk as=some a):Has P G ev (.call c) w a:=by
 obtain ⟨callee,args,ats⟩:=c
 unfold compCallPure at hc
 simp only [Option.bind_eq_bind,Option.pure_def] at hc
 split at hc
 ·split at hc
  ·rename_i x hx
   split at hc
   ·rename_i t ht
    obtain ⟨d,hd,hc⟩:=z9 hc
    split at hc
    ·obtain ⟨X,hX,hc⟩:=z9 hc;cases hc
     rw [xm hx,xm ht]
     exact zb3 H hd hX has hp
    ·cases hc
   ·cases hc
  ·cases hc
 ·split at hc
  ·rename_i x hx
   split at hc
   ·rename_i t ht
    obtain ⟨d,hd,hc⟩:=z9 hc
    split at hc
    ·obtain ⟨X,hX,hc⟩:=z9 hc;cases hc
     rw [xm hx,xm ht]
     exact zay H hd hX has hp
    ·cases hc
   ·cases hc
  ·cases hc
 ·obtain ⟨ys,hys,hc⟩:=z9 hc
  cases hc
  exact z1a (mx:=false) H hys has hp
 ·obtain ⟨ys,hys,hc⟩:=z9 hc
  cases hc
  exact z1a (mx:=true) H hys has hp
 ·cases hc
theorem zbj {op:Op} {pk:PK} {xs:List Opd} {as:List AV} {a:AV} (H:OpdOk G w ev oev) (hcst:∀ v,ev (.const v)=v)
 (hc:compPure P op=some (pk,xs)) (has:xs.mapM oev=some as) (hp:pv pk as=some a):Has P G ev op w a:=by
 unfold compPure at hc
 simp only [Option.bind_eq_bind,Option.pure_def] at hc
 split at hc
 ·obtain ⟨X,hX,hc⟩:=z9 hc;cases hc;exact z53 H (.inl rfl) hX has hp
 ·obtain ⟨X,hX,hc⟩:=z9 hc;cases hc;exact z53 H (.inr rfl) hX has hp
 ·obtain ⟨X,hX,hc⟩:=z9 hc;cases hc;exact z5y H hX has hp
 ·exact zd3 H hcst hc has hp
 ·obtain ⟨X,hX,hc⟩:=z9 hc;cases hc;exact zb5 H hX has hp
 ·obtain ⟨X,hX,hc⟩:=z9 hc;cases hc;exact zb4 H hX has hp
 ·obtain ⟨X,hX,hc⟩:=z9 hc;cases hc;exact zaz H hX has hp
 ·obtain ⟨d,hd,hc⟩:=z9 hc
  split at hc
  ·obtain ⟨d',hd',hc⟩:=z9 hc
   split at hc
   ·obtain ⟨X,hX,hc⟩:=z9 hc;cases hc;exact z95 H hd hd' hX has hp
   ·cases hc
  ·cases hc
 ·obtain ⟨d,hd,hc⟩:=z9 hc
  split at hc
  ·obtain ⟨fd,hfd,hc⟩:=z9 hc
   obtain ⟨n,hn,hc⟩:=z9 hc
   split at hc
   ·cases hc
   ·rename_i h0
    obtain ⟨X,hX,hc⟩:=z9 hc;cases hc;exact zb1 H hd hfd hn h0 hX has hp
  ·cases hc
 ·obtain ⟨d,hd,hc⟩:=z9 hc
  split at hc
  ·obtain ⟨fd,hfd,hc⟩:=z9 hc
   obtain ⟨n,hn,hc⟩:=z9 hc
   obtain ⟨ag,hag,hc⟩:=z9 hc
   obtain ⟨X,hX,hc⟩:=z9 hc;cases hc;exact z96 H hd hfd hn hag hX has hp
  ·cases hc
 ·obtain ⟨d,hd,hc⟩:=z9 hc
  split at hc
  ·obtain ⟨n,hn,hc⟩:=z9 hc
   obtain ⟨X,hX,hc⟩:=z9 hc
   obtain ⟨I,hI,hc⟩:=z9 hc
   cases hc;exact zb2 H hd hn hX hI has hp
  ·obtain ⟨n,hn,hc⟩:=z9 hc
   obtain ⟨X,hX,hc⟩:=z9 hc
   obtain ⟨I,hI,hc⟩:=z9 hc
   cases hc;exact z97 H hd hn hX hI has hp
  ·cases hc
 ·obtain ⟨d,hd,hc⟩:=z9 hc
  split at hc
  ·obtain ⟨n,hn,hc⟩:=z9 hc
   obtain ⟨ag,hag,hc⟩:=z9 hc
   obtain ⟨X,hX,hc⟩:=z9 hc
   obtain ⟨I,hI,hc⟩:=z9 hc
   cases hc;exact z99 H hd hn hag hX hI has hp
  ·obtain ⟨X,hX,hc⟩:=z9 hc
   obtain ⟨I,hI,hc⟩:=z9 hc
   cases hc;exact z98 H hd hX hI has hp
  ·cases hc
 ·obtain ⟨d,hd,hc⟩:=z9 hc
  split at hc
  ·obtain ⟨n,hn,hc⟩:=z9 hc
   split at hc
   ·obtain ⟨X,hX,hc⟩:=z9 hc;cases hc
    exact ud H hd hn hX (.inl ⟨rfl,rfl,rfl,rfl⟩) has hp
   ·obtain ⟨X,hX,hc⟩:=z9 hc
    obtain ⟨L,hL,hc⟩:=z9 hc;cases hc
    exact ud H hd hn hX (.inr (.inl ⟨_,_,rfl,rfl,hL,rfl,rfl⟩)) has hp
   ·obtain ⟨X,hX,hc⟩:=z9 hc
    obtain ⟨L,hL,hc⟩:=z9 hc;cases hc
    exact ud H hd hn hX (.inr (.inr (.inl ⟨_,_,rfl,rfl,hL,rfl,rfl⟩))) has hp
   ·obtain ⟨X,hX,hc⟩:=z9 hc
    obtain ⟨L,hL,hc⟩:=z9 hc
    obtain ⟨U,hU,hc⟩:=z9 hc;cases hc
    exact ud H hd hn hX (.inr (.inr (.inr ⟨_,_,_,_,rfl,rfl,hL,hU,rfl,rfl⟩))) has hp
  ·cases hc
 ·obtain ⟨z,hz,hc⟩:=z9 hc
  obtain ⟨pl,hpl,hc⟩:=z9 hc
  obtain ⟨ps,hps,hc⟩:=z9 hc
  obtain ⟨ys,hys,hc⟩:=z9 hc
  cases hc
  exact z72 H hz hpl hps hys has hp
 ·obtain ⟨X,hX,hc⟩:=z9 hc;cases hc;exact zb0 H hX has hp
 ·split at hc
  ·rename_i hsz
   obtain ⟨ys,hys,hc⟩:=z9 hc
   cases hc
   rw [Array.eq_empty_of_size_eq_zero hsz]
   exact z9a H hys has hp
  ·cases hc
 ·obtain ⟨d,hd,hc⟩:=z9 hc
  split at hc
  ·cases hc
  ·rename_i hne
   obtain ⟨X,hX,hc⟩:=z9 hc;cases hc
   exact z9b H hd (fun ms e=>hne ms e) hX has hp
 ·exact z4b H hc has hp
 ·cases hc
end
end Go.Am
namespace Go.Am
def asTwo:AV→Option (IntKind×Int×IntKind×Int)
 | .agg [.int j1 a1,.int j2 a2]=>some (j1,a1,j2,a2)
 | _=>none
def asOne:AV→Option (IntKind×Int)
 | .int k n=>some (k,n)
 | _=>none
theorem v8 {a:AV} {j1 j2:IntKind} {m n:Int} (h:asTwo a=some (j1,m,j2,n)):a = .agg [.int j1 m,.int j2 n]:=by
 unfold asTwo at h
 split at h
 ·cases h;rfl
 ·cases h
theorem wz {a:AV} {k:IntKind} {n:Int} (h:asOne a=some (k,n)):a = .int k n:=by
 unfold asOne at h
 split at h
 ·cases h;rfl
 ·cases h
def kEq (a b:AV):Option Bool :=
 match asOne a,asOne b with
 | some (j,x),some (k,y)=>if j=k then some (decide (x=y)) else none
 | _,_=>match asTwo a,asTwo b with
   | some (j1,a1,j2,a2),some (k1,b1,k2,b2)=>if j1=k1∧j2=k2 then some (decide (a1=b1∧a2=b2)) else none
   | _,_=>none
def mfind (key:AV):List (AV×AV)→Nat→Option (Option (Nat×AV))
 | [],_=>some none
 | (k,v)::r,i=>match kEq key k with
   | some true=>some (some (i,v))
   | some false=>mfind key r (i+1)
   | none=>none
inductive MKey where
 | int (k:IntKind)
 | two (k1 k2:IntKind)
def keyKind (P:Program) (kt:TypeId):Option MKey :=
 match P.underlying kt with
 | some (.int k)=>some (.int k)
 | some (.struct fs)=>(twoInts P kt fs).map fun p => .two p.1 p.2
 | _=>none
def keyFits:MKey→AV→Bool
 | .int k,a=>match asOne a with
   | some (j,_)=>j ==k
   | none=>false
 | .two k1 k2,a=>match asTwo a with
   | some (j1,_,j2,_)=>j1 ==k1 && j2 ==k2
   | none=>false
section
variable {P:Program} {w:World} {G:Gh}
theorem z0n {kt:TypeId} {k:IntKind} (h:keyKind P kt=some (.int k)):P.underlying kt=some (.int k):=by
 unfold keyKind at h
 split at h
 ·cases h;assumption
 ·obtain ⟨p,_,h⟩:=Option.map_eq_some_iff.1 h;cases h
 ·cases h
theorem uj {kt:TypeId} {k1 k2:IntKind} (h:keyKind P kt=some (.two k1 k2)):∃ fs,P.underlying kt=some (.struct fs)∧twoInts P kt fs=some (k1,k2):=by
 unfold keyKind at h
 split at h
 ·cases h
 ·rename_i fs hu
  obtain ⟨⟨a,b⟩,h1,h⟩:=Option.map_eq_some_iff.1 h
  cases h
  exact ⟨fs,hu,h1⟩
 ·cases h
theorem uh {k:IntKind} {a:AV} (h:keyFits (.int k) a=true):∃ n,a = .int k n:=by
 simp only [keyFits] at h
 split at h
 ·rename_i j n ha
  have:=wz ha
  simp at h
  subst h;exact ⟨_,this⟩
 ·cases h
theorem ui {k1 k2:IntKind} {a:AV} (h:keyFits (.two k1 k2) a=true):∃ m n,a = .agg [.int k1 m,.int k2 n]:=by
 simp only [keyFits] at h
 split at h
 ·rename_i j1 m j2 n ha
  have:=v8 ha
  simp at h
  obtain ⟨rfl,rfl⟩:=h
  exact ⟨_,_,this⟩
 ·cases h
theorem vt (b:Bool) (d:Nat) {t:TypeId} {k:IntKind} (h:P.underlying t=some (.int k)) (n:Int):(Instr.checkKey b (d+1) t (.int k n)).run P w = .ok () w:=by
 simp [Instr.checkKey,zj h]
theorem wa {kt:TypeId} {mk:MKey} (hk:keyKind P kt=some mk) {a:AV} {v:Value} (hf:keyFits mk a=true) (hv:VRel G w a v) (b:Bool) (d:Nat) :
 (Instr.checkKey b (d+1+1) kt v).run P w = .ok () w:=by
 cases mk with
 | int k =>
   obtain ⟨n,rfl⟩:=uh hf
   rw [hv.of_int]
   exact vt b _ (z0n hk) n
 | two k1 k2 =>
   obtain ⟨m,n,rfl⟩:=ui hf
   obtain ⟨x,y,rfl,r1,r2⟩:=qn hv rfl
   rw [r1.of_int,r2.of_int]
   obtain ⟨fs,hu,h2⟩:=uj hk
   obtain ⟨f,g,rfl,h1,h2',h3,h4,h5,h6,_,_⟩:=u6 h2
   have p1:(part f.type #[.int k1 m,.int k2 n] f.offset).run P w = .ok (.int k1 m) w:=uz h1 (by simp [h5])
   have p2:(part g.type #[.int k1 m,.int k2 n] g.offset).run P w = .ok (.int k2 n) w:=uz h2' (by simp [h6])
   have q1:=vt (P:=P) (w:=w) b d h1 m
   have q2:=vt (P:=P) (w:=w) b d h2' n
   rw [Instr.checkKey]
   simp only [Sem.run_bind,zj hu,Result.andThen_ok]
   simp only [List.forIn_toArray,List.forIn_cons,List.forIn_nil,bind_assoc,Sem.run_bind]
   simp [h3,h4,p1,p2,q1,q2]
theorem zb8 {k:IntKind} {n:Int} {a:AV} {b:Bool} (h:kEq (.int k n) a=some b):∃ m,a = .int k m∧b=decide (n=m):=by
 unfold kEq at h
 split at h
 ·rename_i j x j' y h1 h2
  cases h1
  split at h
  ·rename_i hj;subst hj;cases h;exact ⟨_,wz h2,rfl⟩
  ·cases h
 ·split at h
  ·rename_i h1 _;cases h1
  ·cases h
theorem zb9 {k1 k2:IntKind} {m n:Int} {a:AV} {b:Bool} (h:kEq (.agg [.int k1 m,.int k2 n]) a=some b):∃ m' n',a = .agg [.int k1 m',.int k2 n']∧b=decide (m=m'∧n=n'):=by
 unfold kEq at h
 split at h
 ·rename_i h1 _;cases h1
 ·split at h
  ·rename_i h1 h2
   cases h1
   split at h
   ·rename_i hj;obtain ⟨rfl,rfl⟩:=hj;cases h;exact ⟨_,_,v8 h2,rfl⟩
   ·cases h
  ·cases h
theorem z0m {d:TypeDesc} {k:IntKind} (hd:d = .int k) (n:Int):∀ (es:List (AV×AV)) (ents:List MapEntry) (i:Nat) (r:Option (Nat×AV)),Rels (fun e x=>VRel G w e.1 x.key∧VRel G w e.2 x.val) es ents →
 mfind (.int k n) es i=some r→∃ r',Instr.findNow d (.int k n) ents i=some r'∧((r=none∧r'=none)∨∃ j a v,r=some (j,a)∧r'=some (j,v)∧VRel G w a v)
 | [],_,i,r,.nil,h=>by cases h;exact ⟨none,rfl,.inl ⟨rfl,rfl⟩⟩
 | (a,b)::es,_,i,r,.cons hx ht,h=>by
   rename_i x ents
   subst hd
   simp only [mfind] at h
   cases hq:kEq (.int k n) a with
   | none=>simp [hq] at h
   | some bb =>
     obtain ⟨m,rfl,rfl⟩:=zb8 hq
     rw [hq] at h
     have hxk:=hx.1.of_int
     by_cases he:n=m
     ·subst he
      simp at h
      subst h
      exact ⟨some (i,x.val),by simp [Instr.findNow,Instr.sameNow,hxk],.inr ⟨i,b,x.val,rfl,rfl,hx.2⟩⟩
     ·simp [he] at h
      obtain ⟨r',h1,h2⟩:=z0m rfl n es ents (i+1) r ht h
      have hb:(n ==m)=false:=by simp [he]
      exact ⟨r',by simp only [Instr.findNow,Instr.sameNow,hxk,if_true,hb,h1],h2⟩
theorem un {kt:TypeId} {k1 k2:IntKind} (hk:keyKind P kt=some (.two k1 k2)) (m n:Int):∀ (es:List (AV×AV)) (ents:List MapEntry) (i:Nat) (r:Option (Nat×AV)),
 Rels (fun e x=>VRel G w e.1 x.key∧VRel G w e.2 x.val) es ents→mfind (.agg [.int k1 m,.int k2 n]) es i=some r →
 ∃ r',(Instr.findAsking kt (.agg #[.int k1 m,.int k2 n]) ents i).run P w = .ok r' w∧((r=none∧r'=none)∨∃ j a v,r=some (j,a)∧r'=some (j,v)∧VRel G w a v)
 | [],_,i,r,.nil,h=>by cases h;exact ⟨none,by simp [Instr.findAsking],.inl ⟨rfl,rfl⟩⟩
 | (a,b)::es,_,i,r,.cons hx ht,h=>by
   rename_i x ents
   obtain ⟨fs,hu,h2⟩:=uj hk
   simp only [mfind] at h
   cases hq:kEq (.agg [.int k1 m,.int k2 n]) a with
   | none=>simp [hq] at h
   | some bb =>
     obtain ⟨m',n',rfl,rfl⟩:=zb9 hq
     rw [hq] at h
     obtain ⟨u,v,hxk,r1,r2⟩:=qn hx.1 rfl
     have e1:=r1.of_int;have e2:=r2.of_int
     subst e1 e2
     have heq:(Op.equal kt (.agg #[.int k1 m,.int k2 n]) x.key).run P w = .ok (decide (m=m'∧n=n')) w:=by
      rw [hxk,z19];exact z0l 9998 hu h2 m n m' n'
     by_cases he:m=m'∧n=n'
     ·have hd:decide (m=m'∧n=n')=true:=decide_eq_true he
      rw [hd] at h heq
      cases h
      exact ⟨some (i,x.val),by simp [Instr.findAsking,heq],.inr ⟨i,b,x.val,rfl,rfl,hx.2⟩⟩
     ·have hd:decide (m=m'∧n=n')=false:=decide_eq_false he
      rw [hd] at h heq
      simp only at h
      obtain ⟨r',h3,h4⟩:=un hk m n es ents (i+1) r ht h
      exact ⟨r',by simp [Instr.findAsking,heq,h3],h4⟩
theorem xo {kt:TypeId} {mk:MKey} (hk:keyKind P kt=some mk) {a:AV} {v:Value} (hf:keyFits mk a=true) (hv:VRel G w a v) {es:List (AV×AV)} {ents:List MapEntry} {r:Option (Nat×AV)}
 (hr:Rels (fun e x=>VRel G w e.1 x.key∧VRel G w e.2 x.val) es ents) (h:mfind a es 0=some r) :
 ∃ r',(Instr.findKey kt v ents).run P w = .ok r' w∧((r=none∧r'=none)∨∃ j a v,r=some (j,a)∧r'=some (j,v)∧VRel G w a v):=by
 cases mk with
 | int k =>
   obtain ⟨n,rfl⟩:=uh hf
   rw [hv.of_int]
   obtain ⟨r',h1,h2⟩:=z0m rfl n es ents 0 r hr h
   refine ⟨r',?_,h2⟩
   unfold Instr.findKey
   simp [zj (z0n hk),h1]
 | two k1 k2 =>
   obtain ⟨m,n,rfl⟩:=ui hf
   obtain ⟨x,y,rfl,r1,r2⟩:=qn hv rfl
   rw [r1.of_int,r2.of_int]
   obtain ⟨fs,hu,_⟩:=uj hk
   obtain ⟨r',h1,h2⟩:=un hk m n es ents 0 r hr h
   unfold Instr.findKey
   simp only [Sem.run_bind,zj hu,Result.andThen_ok]
   cases hr with
   | nil =>
     cases h
     exact ⟨none,rfl,.inl ⟨rfl,rfl⟩⟩
   | cons hx ht =>
     refine ⟨r',?_,h2⟩
     simp only [Instr.findNow,Instr.sameNow]
     exact h1
end
end Go.Am
namespace Go.Am
def takeN (off sz:Nat) (cells:List AV):Option (List AV):=if off+sz≤cells.length then some ((cells.drop off).take sz) else none
def rd (σ:Store) (sz:Nat):AV→Option (List AV)
 | .ptr id off=>match σ id with
   | some (.box cells)=>takeN off sz cells
   | _=>none
 | .aptr id esz i off=>match σ id with
   | some (.arr esz' es)=>if esz'=esz then (es[i]?).bind (takeN off sz) else none
   | _=>none
 | .ep cells=>takeN 0 sz cells
 | _=>none
def wr (σ:Store) (new:List AV):AV→Option Store
 | .ptr id off=>match σ id with
   | some (.box cells)=>(splice off new cells).map fun cs=>σ.set id (.box cs)
   | _=>none
 | .aptr id esz i off=>match σ id with
   | some (.arr esz' es)=>if esz'=esz then (es[i]?).bind fun c=>(splice off new c).map fun cs=>σ.set id (.arr esz (es.set i cs)) else none
   | _=>none
 | _=>none
def slc (σ:Store) (esz:Nat):AV→Option (List (List AV))
 | .nils=>some []
 | .sl esz' es=>if esz'=esz then some es else none
 | .os id esz' off len=>match σ id with
   | some (.arr esz'' es)=>if esz'=esz∧esz''=esz∧off+len≤es.length then some ((es.drop off).take len) else none
   | _=>none
 | _=>none
section
variable {P:Program} {w:World} {G:Gh} {σ:Store} {ev:Operand→Value} {oev:Opd→Option AV}
theorem w7 {w:World} {b o:Nat} {cs:Array Value} {ty:TypeId} {fr:Nat×Nat} (h:w.heap[b]? = some (.cells cs ty fr)):w.cell? ⟨b,o,none⟩=cs[o]? := by
 simp [World.cell?,h]
theorem qf {off sz:Nat} {cells cs:List AV} (h:takeN off sz cells=some cs):off+sz≤cells.length∧cs.length=sz∧(∀ c ∈ cs,c ∈ cells)∧∀ j,j<sz→cs[j]? = cells[off+j]? := by
 unfold takeN at h
 split at h
 ·rename_i hle
  cases h
  refine ⟨hle,by simp;omega,fun c hc=>List.mem_of_mem_drop (List.mem_of_mem_take hc),fun j hj => ?_⟩
  rw [List.getElem?_take_of_lt hj,List.getElem?_drop]
 ·cases h
theorem z3z (cs:List AV) (sz:Nat) (hl:cs.length=sz) (b o:Nat) (f:Nat→Value)
 (hc:∀ j,j<sz→w.cell? ⟨b,o+j,none⟩=some (f j)) (hv:∀ j a,cs[j]? = some a→VRel G w a (f j)) :
 ∃ vs:List Value,vs.length=sz∧Rels (VRel G w) cs vs∧∀ j x,vs[j]? = some x→w.cell? ⟨b,o+j,none⟩=some x:=by
 refine ⟨(List.range sz).map f,by simp,Rels.of_get (by simp [hl]) fun k h h' => ?_,fun j x hx => ?_⟩
 ·simp;exact hv k _ (List.getElem?_eq_getElem h)
 ·rw [List.getElem?_map] at hx
  obtain ⟨k,hk,rfl⟩:=Option.map_eq_some_iff.1 hx
  obtain ⟨hlt,he⟩:=List.getElem?_eq_some_iff.1 hk
  simp at he hlt;subst he
  exact hc _ hlt
theorem z1j (hs:Sim G σ w) {p:AV} {v:Value} {sz:Nat} {cs:List AV} (hp:VRel G w p v) (h:rd σ sz p=some cs) :
 ∃ b o,∃ vs:List Value,v = .pointer (some ⟨b,o,none⟩)∧cs.length=sz∧vs.length=sz∧(∀ c ∈ cs,c.flat=true)∧Rels (VRel G w) cs vs ∧
   ∀ j x,vs[j]? = some x→w.cell? ⟨b,o+j,none⟩=some x:=by
 unfold rd at h
 split at h
 ·rename_i id off
  split at h
  ·rename_i cells hσ
   obtain ⟨b,base,hb,hv⟩:=hp.of_ptr
   obtain ⟨b',base',hb',ho⟩:=hs.used id _ hσ
   rw [hb] at hb';cases hb'
   obtain ⟨hle,hl,hm,hg⟩:=qf h
   cases ho with
   | box hh hsz hf hr =>
     rename_i arr ty
     obtain ⟨vs,h1,h2,h3⟩:=z3z (w:=w) (G:=G) cs sz hl b (base+off) (fun j=>arr.getD (base+(off+j)) undef)
      (fun j hj=>by
        rw [w7 hh]
        have:base+off+j<arr.size:=by omega
        simp [Array.getD,Nat.add_assoc] at this ⊢
        simp [this])
      (fun j a ha=>by
        have hj:j<sz:=by rw [←hl];exact (List.getElem?_eq_some_iff.1 ha).1
        rw [hg j hj] at ha
        obtain ⟨hk,rfl⟩:=List.getElem?_eq_some_iff.1 ha
        exact hr (off+j) hk)
     exact ⟨_,_,vs,hv,hl,h1,fun c hc=>hf c (hm c hc),h2,h3⟩
  ·cases h
 ·rename_i id esz i off
  split at h
  ·rename_i esz' es hσ
   split at h
   ·rename_i he
    subst he
    obtain ⟨c0,hc0,h⟩:=z9 h
    obtain ⟨b,base,hb,hv⟩:=hp.of_aptr
    obtain ⟨b',base',hb',ho⟩:=hs.used id _ hσ
    rw [hb] at hb';cases hb'
    obtain ⟨hle,hl,hm,hg⟩:=qf h
    obtain ⟨hi,rfl⟩:=List.getElem?_eq_some_iff.1 hc0
    cases ho with
    | arr hh hsz hln hf hr =>
      rename_i arr ty
      have hli:es[i].length=esz':=hln _ (List.getElem_mem hi)
      obtain ⟨vs,h1,h2,h3⟩:=z3z (w:=w) (G:=G) cs sz hl b (base+(i*esz'+off)) (fun j=>arr.getD (base+(i*esz'+(off+j))) undef)
       (fun j hj=>by
         rw [w7 hh]
         have h1:i*esz'+esz'≤es.length*esz':=by
          have:=Nat.mul_le_mul_right esz' (Nat.succ_le_of_lt hi)
          rwa [Nat.succ_mul] at this
         have:base+(i*esz'+off)+j<arr.size:=by omega
         simp [Array.getD,Nat.add_assoc] at this ⊢
         simp [this])
       (fun j a ha=>by
         have hj:j<sz:=by rw [←hl];exact (List.getElem?_eq_some_iff.1 ha).1
         rw [hg j hj] at ha
         obtain ⟨hk,rfl⟩:=List.getElem?_eq_some_iff.1 ha
         exact hr i (off+j) hi hk)
      exact ⟨_,_,vs,hv,hl,h1,fun c hc=>hf _ (List.getElem_mem hi) c (hm c hc),h2,h3⟩
   ·cases h
  ·cases h
 ·rename_i cells
  obtain ⟨b,off,vs0,hv,hI,hf,hc,hr⟩:=hp.of_ep
  obtain ⟨hle,hl,hm,hg⟩:=qf h
  obtain ⟨vs,h1,h2,h3⟩:=z3z (w:=w) (G:=G) cs sz hl b off vs0 (fun j hj=>hc j (by omega))
   (fun j a ha=>by
     have hj:j<sz:=by rw [←hl];exact (List.getElem?_eq_some_iff.1 ha).1
     rw [hg j hj,Nat.zero_add] at ha
     obtain ⟨hk,rfl⟩:=List.getElem?_eq_some_iff.1 ha
     exact hr j hk)
  exact ⟨_,_,vs,hv,hl,h1,fun c hc=>hf c (hm c hc),h2,h3⟩
 ·cases h
def ERel (G:Gh) (w:World) (esz:Nat) (es:List (List AV)) (f:Nat→Value):Prop :=
 (∀ e ∈ es,e.length=esz)∧(∀ e ∈ es,∀ c ∈ e,c.flat=true) ∧
 ∀ i j (hi:i<es.length) (hj:j<(es[i]'hi:List AV).length),VRel G w ((es[i]'hi:List AV)[j]'hj) (f (i*esz+j))
theorem z3q {i j n s:Nat} (hi:i<n) (hj:j<s):i*s+j<n*s:=by
 have:=Nat.mul_le_mul_right s (Nat.succ_le_of_lt hi)
 rw [Nat.succ_mul] at this;omega
theorem z27 (hs:Sim G σ w) {esz:Nat} {x:AV} {v:Value} {es:List (List AV)} (hx:VRel G w x v) (h:slc σ esz x=some es) :
 ∃ b c,v = .slice b es.length c∧es.length≤c∧(es=[]∨∃ blk o,b=some ⟨blk,o,none⟩∧∃ f:Nat→Value,ERel G w esz es f ∧
   (∀ k,k<es.length*esz→w.cell? ⟨blk,o+k,none⟩=some (f k))):=by
 unfold slc at h
 split at h
 ·cases h
  exact ⟨_,_,hx.of_nils,Nat.le_refl _,.inl rfl⟩
 ·rename_i esz' es'
  split at h
  ·rename_i he
   subst he;cases h
   by_cases hne:es=[]
   ·subst hne
    obtain ⟨a,c,hv,hc⟩:=hx.of_sl_len
    exact ⟨_,_,hv,hc,.inl rfl⟩
   ·obtain ⟨b,off,c,vs,hv,hI,hcap,hl,hf,hc,hr⟩:=hx.of_sl hne
    refine ⟨_,_,hv,hcap,.inr ⟨b,off,rfl,fun k=>vs (k / esz') (k % esz'),⟨hl,hf,fun i j hi hj => ?_⟩,fun k hk => ?_⟩⟩
    ·have hj':j<esz':=by rw [←hl _ (List.getElem_mem hi)];exact hj
     have e1:(i*esz'+j) / esz'=i:=by
      rw [Nat.mul_comm,Nat.mul_add_div (by omega),Nat.div_eq_of_lt hj'];rfl
     have e2:(i*esz'+j) % esz'=j:=by rw [Nat.mul_comm,Nat.mul_add_mod,Nat.mod_eq_of_lt hj']
     show VRel G w _ (vs ((i*esz'+j) / esz') ((i*esz'+j) % esz'))
     rw [e1,e2];exact hr i j hi hj
    ·have hpos:0<esz':=by
      rcases Nat.eq_zero_or_pos esz' with h | h
      ·subst h;simp at hk
      ·exact h
     have:=hc (k / esz') (k % esz') (by rw [Nat.div_lt_iff_lt_mul hpos];exact hk) (Nat.mod_lt _ hpos)
     rw [Nat.div_add_mod'] at this
     exact this
  ·cases h
 ·rename_i id esz' off len
  split at h
  ·rename_i esz'' es0 hσ
   split at h
   ·rename_i hc
    obtain ⟨rfl,rfl,hle⟩:=hc
    cases h
    have hlen:((es0.drop off).take len).length=len:=by simp;omega
    obtain ⟨b,base,hb,⟨c,hv,hcap,hroom⟩ | ⟨rfl,z,hv⟩⟩:=hx.of_os
    ·rw [hlen]
     refine ⟨_,_,hv,hcap,?_⟩
     by_cases hne:len=0
     ·subst hne;exact .inl (by simp)
     ·refine .inr ⟨b,base+off*esz'',rfl,?_⟩
      obtain ⟨b',base',hb',ho⟩:=hs.used id _ hσ
      rw [hb] at hb';cases hb'
      cases ho with
      | arr hh hsz hln hf hr =>
        rename_i cur ty
        refine ⟨fun k=>cur.getD (base+(off*esz''+k)) undef,⟨fun e he=>hln e (List.mem_of_mem_drop (List.mem_of_mem_take he)),fun e he=>hf e (List.mem_of_mem_drop (List.mem_of_mem_take he)),fun i j hi hj => ?_⟩,fun k hk => ?_⟩
        ·have hi':=hi
         rw [hlen] at hi'
         have e:((es0.drop off).take len)[i]'hi=es0[off+i]'(by omega):=by simp
         have h1:=hr (off+i) j (by omega) (by rw [←e];exact hj)
         simp only [e]
         rw [Nat.add_mul,Nat.add_assoc] at h1
         exact h1
        ·rw [w7 hh]
         have h1:off*esz''+len*esz''≤es0.length*esz'':=by rw [←Nat.add_mul];exact Nat.mul_le_mul_right _ hle
         have:base+(off*esz''+k)<cur.size:=by omega
         show _=some (cur.getD (base+(off*esz''+k)) undef)
         rw [Nat.add_assoc,Array.getD_eq_getD_getElem?,Array.getElem?_eq_getElem this];rfl
    ·rw [hlen]
     exact ⟨_,_,hv,Nat.le_refl _,.inl (by simp)⟩
   ·cases h
  ·cases h
 ·cases h
inductive LK where
 | ld (sz:Nat) (agg:Bool)
 | look (ok:Bool) (mk:MKey) (zero:AV)
 | mlen
 | str
def mpOf (σ:Store):AV→Option (List (AV×AV))
 | .nilmap=>some []
 | .mp id=>match σ id with
   | some (.map es)=>some es
   | _=>none
 | _=>none
def lookRes (ok:Bool) (zero:AV):Option (Nat×AV)→AV
 | some (_,v)=>if ok then .tup [v,.bool true] else v
 | none=>if ok then .tup [zero,.bool false] else zero
def toBytes:List (List AV)→List UInt8→Option (List UInt8)
 | [],acc=>some acc.reverse
 | [.int .u8 n]::r,acc=>toBytes r (UInt8.ofNat n.toNat::acc)
 | _,_=>none
def ldv:LK→List AV→Store→Option AV
 | .ld sz true,[p],σ=>(rd σ sz p).map .agg
 | .ld _ false,[p],σ=>(rd σ 1 p).bind fun | [c]=>some c | _=>none
 | .look ok mk zero,[m,k],σ=>if keyFits mk k=true then (mpOf σ m).bind fun es=>(mfind k es 0).map (lookRes ok zero) else none
 | .mlen,[m],σ=>(mpOf σ m).map fun es => .int .i64 es.length
 | .str,[x],σ=>(slc σ 1 x).bind fun es=>(toBytes es []).map fun l => .str ⟨l.toArray⟩
 | _,_,_=>none
def tzeroV (P:Program) (t:TypeId):Option AV:=do
 let i ←P.info? t
 AV.ofValue (←i.zero)
def compLoad (P:Program):Op→Option (LK×List Opd)
 | .load t x=>do
   let ag ←tagg P t
   pure (.ld (←tsz P t) ag,[←compOpd x])
 | .lookup t m k ok=>do
   let .map kt et ←P.underlying t | none
   pure (.look ok (←keyKind P kt) (←tzeroV P et),[←compOpd m,←compOpd k])
 | .convert s d x=>do
   let .slice e ←P.underlying s | none
   let .int .u8 ←P.underlying e | none
   let .string ←P.underlying d | none
   pure (.str,[←compOpd x])
 | .call c=>match c.callee with
   | .builtin .len=>do
     let [x]:=c.args.toList | none
     let [t]:=c.argTypes.toList | none
     let .map _ _ ←P.underlying t | none
     pure (.mlen,[←compOpd x])
   | _=>none
 | _=>none
theorem zdl {t:TypeId} {z:AV} (h:tzeroV P t=some z):∃ v,(zeroValue t).run P w = .ok v w∧VRel G w z v:=by
 unfold tzeroV at h
 simp only [Option.bind_eq_bind] at h
 obtain ⟨i,hi,h⟩:=z9 h
 obtain ⟨v,hv,h⟩:=z9 h
 exact ⟨v,by simp [zeroValue,zy hi,hv],z0p h⟩
theorem z79 (hs:Sim G σ w) {m:AV} {v:Value} {es:List (AV×AV)} (hm:VRel G w m v) (h:mpOf σ m=some es) :
 (v = .map none∧es=[])∨∃ b ents clock,v = .map (some b)∧w.heap[b]? = some (.map ents clock)∧Rels (fun e x=>VRel G w e.1 x.key∧VRel G w e.2 x.val) es ents.toList:=by
 unfold mpOf at h
 split at h
 ·cases h
  cases hm
  exact .inl ⟨rfl,rfl⟩
 ·rename_i id
  split at h
  ·rename_i es' hσ
   cases h
   obtain ⟨b,base,hb,hv⟩:=hm.of_mp
   obtain ⟨b',base',hb',ho⟩:=hs.used id _ hσ
   rw [hb] at hb';cases hb'
   cases ho with
   | map hh h0 hl hr hborn hinj =>
     rename_i ents clock
     exact .inr ⟨b,ents,clock,hv,hh,Rels.of_get (by simpa using hl) fun k hk hk'=>by
      have:=hr k hk (by simpa using hk')
      simpa using this⟩
  ·cases h
 ·cases h
theorem vd {b:Nat} {ents:Array MapEntry} {clock:Nat} (h:w.heap[b]? = some (.map ents clock)):(getObj b).run P w = .ok (.map ents clock) w:=by
 simp [getObj,Sem.run,h]
theorem z9j (hs:Sim G σ w) {t kt et:TypeId} {mk:MKey} {zero m k:AV} {vm vk:Value} {ok:Bool} {es:List (AV×AV)} {r:Option (Nat×AV)} (ht:P.underlying t=some (.map kt et)) (hk:keyKind P kt=some mk)
 (hz:tzeroV P et=some zero) (hm:VRel G w m vm) (hkv:VRel G w k vk) (hf:keyFits mk k=true) (he:mpOf σ m=some es) (hfd:mfind k es 0=some r) :
 ∃ v,(Instr.lookup t vm vk ok).run P w = .ok v w∧VRel G w (lookRes ok zero r) v:=by
 obtain ⟨zv,hz1,hz2⟩:=zdl (w:=w) (G:=G) hz
 have e10:(10000:Nat)=9998+1+1:=rfl
 have hpair:∀ {a:AV} {v:Value} {b:Bool},VRel G w a v→VRel G w (.tup [a,.bool b]) (.tuple #[v,.bool b]):=fun {a v b} h =>
  .tup (cs:=[v,.bool b]) rfl fun k hk hk'=>by
    match k,hk with
    | 0,_=>exact h
    | 1,_=>exact .bool b
 have fin:∀ (b:Bool) (l:List MapEntry),Rels (fun e x=>VRel G w e.1 x.key∧VRel G w e.2 x.val) es l→∃ v,((do
  Instr.checkKey b 10000 kt vk
  let (v,ok') ←match ←Instr.findKey kt vk l with
   | some (_,v)=>pure (v,true)
   | none=>pure (←zeroValue et,false)
  pure (if ok then .tuple #[v,.bool ok'] else v):Sem Value)).run P w = .ok v w∧VRel G w (lookRes ok zero r) v:=by
  intro b l hl
  obtain ⟨r',h1,h2⟩:=xo hk hf hkv hl hfd
  have hck:=wa hk hf hkv b 9998
  rcases h2 with ⟨rfl,rfl⟩ | ⟨j,a,v,rfl,rfl,hv⟩
  ·refine ⟨if ok then .tuple #[zv,.bool false] else zv,?_,?_⟩
   ·rw [e10];simp [hck,h1,hz1]
   ·cases ok
    ·exact hz2
    ·exact hpair hz2
  ·refine ⟨if ok then .tuple #[v,.bool true] else v,?_,?_⟩
   ·rw [e10];simp [hck,h1]
   ·cases ok
    ·exact hv
    ·exact hpair hv
 unfold Instr.lookup
 simp only [Sem.run_bind,zj ht,Result.andThen_ok]
 rcases z79 hs hm he with ⟨rfl,rfl⟩ | ⟨b,ents,clock,rfl,hh,hrel⟩
 ·obtain ⟨v,h1,h2⟩:=fin (#[]:Array MapEntry).isEmpty (#[]:Array MapEntry).toList .nil
  refine ⟨v,?_,h2⟩
  simp only [pure_bind]
  simp only [Sem.run_bind] at h1 ⊢
  exact h1
 ·obtain ⟨v,h1,h2⟩:=fin ents.isEmpty ents.toList hrel
  refine ⟨v,?_,h2⟩
  simp only [bind_assoc,Sem.run_bind,vd hh,Result.andThen_ok,pure_bind]
  simp only [Sem.run_bind] at h1
  exact h1
theorem z7g (acc:List UInt8) (b:UInt8):(ByteArray.mk acc.reverse.toArray).push b=ByteArray.mk (b::acc).reverse.toArray:=by
 show ByteArray.mk (acc.reverse.toArray.push b)=_
 congr 1
 simp
theorem z08:∀ {es:List (List AV)} {acc l:List UInt8},toBytes es acc=some l →
 ∃ ns:List Int,es=ns.map (fun n=>[.int .u8 n])∧ns.foldl (fun r n=>r.push (UInt8.ofNat n.toNat)) (ByteArray.mk acc.reverse.toArray)=⟨l.toArray⟩
 | [],acc,l,h=>by cases h;exact ⟨[],rfl,rfl⟩
 | x::r,acc,l,h=>by
   unfold toBytes at h
   split at h
   ·rename_i he;cases he
   ·rename_i n r' he
    cases he
    obtain ⟨ns,h1,h2⟩:=z08 h
    refine ⟨n::ns,by rw [h1];rfl,?_⟩
    rw [List.foldl_cons,z7g]
    exact h2
   ·cases h
theorem z6w {s d e:TypeId} (h1:P.underlying s=some (.slice e)) (h2:P.underlying e=some (.int .u8)) (h3:P.underlying d=some .string) {b:Option Addr} {c:Nat} {es:List (List AV)} {l:List UInt8}
 (hl:toBytes es []=some l) (hcells:es=[]∨∃ blk o,b=some ⟨blk,o,none⟩∧∃ f:Nat→Value,ERel G w 1 es f∧(∀ k,k<es.length*1→w.cell? ⟨blk,o+k,none⟩=some (f k))) :
 (convert s d (.slice b es.length c)).run P w = .ok (.string ⟨l.toArray⟩) w:=by
 rw [run_convert_bytes_string w s d e b es.length c h1 h2 h3]
 obtain ⟨ns,hns,hfold⟩:=z08 hl
 have hlen:es.length=ns.length:=by rw [hns];simp
 have hfin:ByteArray.empty=ByteArray.mk ([]:List UInt8).reverse.toArray:=rfl
 have hload:∀ a:Addr,b=some a→(loadCells a es.length).run P w = .ok (ns.map (Value.int .u8)).toArray w:=by
  rintro a rfl
  rcases hcells with h0 | ⟨blk,o,hb,f,⟨_,_,hf⟩,hc⟩
  ·have:ns=[]:=by
    have:ns.length=0:=by rw [←hlen,h0];rfl
    exact List.length_eq_zero_iff.1 this
   rw [h0,this];rfl
  ·cases hb
   have:=run_loadCells_list (P:=P) w ⟨blk,o,none⟩ (ns.map (Value.int .u8)) (fun j x hx=>by
    rw [x6]
    rw [List.getElem?_map] at hx
    obtain ⟨n,hn,rfl⟩:=Option.map_eq_some_iff.1 hx
    have hj:j<ns.length:=(List.getElem?_eq_some_iff.1 hn).1
    rw [hc j (by omega)]
    have hje:j<es.length:=by omega
    have e:es[j]=[.int .u8 ns[j]]:=by
     have:=congrArg (fun l:List (List AV)=>l[j]?) hns
     simp only [List.getElem?_eq_getElem hje,List.getElem?_map,List.getElem?_eq_getElem hj,Option.map_some,Option.some.injEq] at this
     exact this
    have h5:=hf j 0 hje (by rw [e];simp)
    simp only [e,List.getElem_cons_zero,Nat.mul_one,Nat.add_zero] at h5
    rw [h5.of_int]
    rw [List.getElem?_eq_getElem hj] at hn
    cases hn;rfl)
   rw [List.length_map] at this
   rw [hlen]
   exact this
 cases b with
 | none =>
   have:ns=[]:=by
    rcases hcells with h0 | ⟨_,_,hb,_⟩
    ·have:ns.length=0:=by rw [←hlen,h0];rfl
     exact List.length_eq_zero_iff.1 this
    ·cases hb
   subst this
   simp only [List.foldl_nil] at hfold
   rw [←hfold]
   rfl
 | some a =>
   rw [run_bytesToString w a es.length c ns (hload a rfl),hfin,hfold]
theorem zbc {op:Op} {lk:LK} {xs:List Opd} {as:List AV} {a:AV} (hs:Sim G σ w) (H:OpdOk G w ev oev)
 (hc:compLoad P op=some (lk,xs)) (has:xs.mapM oev=some as) (hp:ldv lk as σ=some a):Has P G ev op w a:=by
 unfold compLoad at hc
 simp only [Option.bind_eq_bind,Option.pure_def] at hc
 split at hc
 ·rename_i t x
  obtain ⟨ag,hag,hc⟩:=z9 hc
  obtain ⟨n,hn,hc⟩:=z9 hc
  obtain ⟨X,hX,hc⟩:=z9 hc
  cases hc
  obtain ⟨p,h1,rfl⟩:=yg has
  have hx:=H x X p hX h1
  cases ag
  ·simp only [ldv] at hp
   obtain ⟨cs,hr,hp⟩:=z9 hp
   split at hp
   ·rename_i c
    cases hp
    obtain ⟨b,o,vs,hv,hl,hvl,hf,hrel,hcell⟩:=z1j hs hx hr
    match vs,hvl,hrel with
    | [v0],_,.cons hr0 _ =>
      refine ⟨v0,zr (s:=Instr.loadAt t (ev x)) (fun _ _ _ _ _=>rfl) ?_,hr0⟩
      rw [hv]
      unfold Instr.loadAt Instr.sureAddr loadVar
      have:=hcell 0 v0 rfl
      simp at this
      simp [z01 hag,this]
   ·cases hp
  ·simp only [ldv,Option.map_eq_some_iff] at hp
   obtain ⟨cs,hr,rfl⟩:=hp
   obtain ⟨b,o,vs,hv,hl,hvl,hf,hrel,hcell⟩:=z1j hs hx hr
   refine ⟨.agg vs.toArray,zr (s:=Instr.loadAt t (ev x)) (fun _ _ _ _ _=>rfl) ?_,?_⟩
   ·rw [hv]
    unfold Instr.loadAt Instr.sureAddr loadVar
    have:=run_loadCells_list (P:=P) w ⟨b,o,none⟩ vs (fun j x hx=>by rw [x6];exact hcell j x hx)
    rw [hvl] at this
    simp [z01 hag,y9 hn,this]
   ·refine .agg hrel.length hf fun k hk hk' => ?_
    obtain ⟨b',hb',hv'⟩:=hrel.get k _ (List.getElem?_eq_getElem hk)
    rw [List.getElem?_eq_getElem hk'] at hb'
    cases hb';exact hv'
 ·rename_i t m k ok
  obtain ⟨d,hd,hc⟩:=z9 hc
  split at hc
  ·rename_i kt et
   obtain ⟨mk,hmk,hc⟩:=z9 hc
   obtain ⟨z,hz,hc⟩:=z9 hc
   obtain ⟨M,hM,hc⟩:=z9 hc
   obtain ⟨K,hK,hc⟩:=z9 hc
   cases hc
   obtain ⟨p,q,h1,h2,rfl⟩:=yr has
   simp only [ldv] at hp
   split at hp
   ·rename_i hf
    obtain ⟨es,he,hp⟩:=z9 hp
    obtain ⟨r,hr,rfl⟩:=Option.map_eq_some_iff.1 hp
    obtain ⟨v,h3,h4⟩:=z9j (P:=P) (ok:=ok) hs hd hmk hz (H m M p hM h1) (H k K q hK h2) hf he hr
    exact ⟨v,zr (s:=Instr.lookup t (ev m) (ev k) ok) (fun _ _ _ _ _=>rfl) h3,h4⟩
   ·cases hp
  ·cases hc
 ·rename_i s d x
  obtain ⟨t1,ht1,hc⟩:=z9 hc
  split at hc
  ·rename_i e
   obtain ⟨t2,ht2,hc⟩:=z9 hc
   split at hc
   ·obtain ⟨t3,ht3,hc⟩:=z9 hc
    split at hc
    ·obtain ⟨X,hX,hc⟩:=z9 hc
     cases hc
     obtain ⟨p,h1,rfl⟩:=yg has
     have hx:=H x X p hX h1
     simp only [ldv] at hp
     obtain ⟨es,hes,hp⟩:=z9 hp
     obtain ⟨l,hl,rfl⟩:=Option.map_eq_some_iff.1 hp
     refine ⟨.string ⟨l.toArray⟩,zr (s:=convert s d (ev x)) (fun _ _ _ _ _=>rfl) ?_,.str _⟩
     obtain ⟨b,c,hv,_,hcells⟩:=z27 hs hx hes
     rw [hv]
     exact z6w ht1 ht2 ht3 hl hcells
    ·cases hc
   ·cases hc
  ·cases hc
 ·rename_i c
  obtain ⟨callee,args,ats⟩:=c
  split at hc
  ·rename_i heq
   simp only at heq;subst heq
   split at hc
   ·rename_i x hx
    have hx':args.toList=[x]:=hx
    split at hc
    ·rename_i t ht
     have ht':ats.toList=[t]:=ht
     obtain ⟨d,hd,hc⟩:=z9 hc
     split at hc
     ·obtain ⟨X,hX,hc⟩:=z9 hc
      cases hc
      rw [xm hx',xm ht']
      obtain ⟨p,h1,rfl⟩:=yg has
      have hm:=H x X p hX h1
      simp only [ldv,Option.map_eq_some_iff] at hp
      obtain ⟨es,he,rfl⟩:=hp
      refine ⟨.int .i64 es.length,?_,.int _ _⟩
      intro dst ty pos after guard
      rcases z79 hs hm he with ⟨hv,rfl⟩ | ⟨b,ents,clock,hv,hh,hrel⟩
      ·simp [execOp,resolve,invoke,builtin,Builtin.len_,zj hd,hv,goInt]
      ·have hl:=hrel.length
       simp at hl
       simp [execOp,resolve,invoke,builtin,Builtin.len_,zj hd,hv,goInt,vd hh,hl]
     ·cases hc
    ·cases hc
   ·cases hc
  ·cases hc
 ·cases hc
end
end Go.Am
