/- A part of the proof: a logic for calls over plain values, and the functions that the law reaches, each walked once. -/
import Derived.Test.YtplkahhkogncjaaGreatQC3
import Derived.KernelRfl
set_option linter.unusedVariables false
set_option linter.unusedSimpArgs false
set_option linter.unusedSectionVars false
namespace Go.Am
abbrev Env:=List (Nat×AV)
def Env.get:Env→Nat→Option AV
 | [],_=>none
 | (k,a)::e,t=>if t=k then some a else Env.get e t
def Env.keep (e:Env):List Nat→Env
 | []=>[]
 | t::r=>match e.get t with
   | some a=>(t,a)::Env.keep e r
   | none=>Env.keep e r
def Env.putO (d:Option Nat) (a:AV) (e:Env):Env:=match d with
 | some t=>(t,a)::e
 | none=>e
def ev (e:Env):Opd→Option AV
 | .t n=>e.get n
 | .c a=>some a
def evs (e:Env):List Opd→Option (List AV)
 | []=>some []
 | x::r=>match ev e x with
   | some a=>match evs e r with
     | some as=>some (a::as)
     | none=>none
   | none=>none
def bop (P:Program) (d:Option Nat) (k:BK) (xs:List Opd) (e:Env) (σ:Store) (K:Env→Store→Prop):Prop :=
 match k with
 | .pure pk=>match evs e xs with
   | some as=>∃ a,pv pk as=some a∧K (Env.putO d a e) σ
   | none=>False
 | .pick=>match xs with
   | [c,x,y]=>match ev e c with
     | some (.bool v)=>(v=true→∃ a,ev e x=some a∧K (Env.putO d a e) σ)∧(v=false→∃ a,ev e y=some a∧K (Env.putO d a e) σ)
     | _=>False
   | _=>False
 | .load lk=>match evs e xs with
   | some as=>∃ a,ldv lk as σ=some a∧K (Env.putO d a e) σ
   | none=>False
 | .alloc ak=>match evs e xs with
   | some as=>∃ p,alv ak as=some p∧∀ id,σ id=none→K (Env.putO d (p.2 id) e) (σ.set id p.1)
   | none=>False
 | .loud lo=>match evs e xs with
   | some as=>lwp P lo as σ (fun a σ'=>K (Env.putO d a e) σ')
   | none=>False
 | .qcall f=>match evs e xs with
   | some as=>ACalls P f as σ (fun a s=>Store.sub σ s∧K (Env.putO d a e) s)
   | none=>False
 | .bad=>False
def bops (P:Program):List BOp→Env→Store→(Env→Store→Prop)→Prop
 | [],e,σ,K=>K e σ
 | ⟨d,none,k,xs⟩::r,e,σ,K=>bop P d k xs e σ (fun e σ=>bops P r e σ K)
 | ⟨d,some (t,b),k,xs⟩::r,e,σ,K=>match e.get t with
   | some (.bool v)=>(v=b→bop P d k xs ((t,.bool b)::e) σ (fun e σ=>bops P r e σ K))∧(v=(!b)→bops P r (Env.putO d (.tup []) ((t,.bool (!b))::e)) σ K)
   | some (.tup [])=>bops P r (Env.putO d (.tup []) e) σ K
   | _=>False
def WeakE (e:Env) (σ:Store) (Q:Env→Store→Prop):Prop :=
 ∀ G w (vs:Nat→Option Value),Sim G σ w→(∀ t v,e.get t=some v→∃ x,vs t=some x∧VRel G w v x)→∃ G' e' σ',Ext G σ w G' σ' w∧Sim G' σ' w∧(∀ t v,e'.get t=some v→∃ x,vs t=some x∧VRel G' w v x)∧Q e' σ'
def bwp (P:Program):BC→Env→Store→(Env→Store→Prop)→(Env→Store→Prop)→(Nat→Env→Store→Prop)→Prop
 | .skip,e,σ,n,_,_=>n e σ
 | .ret,e,σ,_,r,_=>r e σ
 | .exit i,e,σ,_,_,x=>x i e σ
 | .seq a b,e,σ,n,r,x=>bwp P a e σ (fun e σ=>bwp P b e σ n r x) r x
 | .cond c a b,e,σ,n,r,x=>match ev e c with
   | some (.bool v)=>(v=true→bwp P a e σ n r x)∧(v=false→bwp P b e σ n r x)
   | _=>False
 | .block id b,e,σ,n,r,x=>bwp P b e σ n r (fun i e σ=>if i=id then n e σ else x i e σ)
 | .ops l live,e,σ,n,_,_=>bops P l e σ (fun e σ=>n (e.keep live) σ)
 | .loop live b,e,σ,_,r,x=>∃ I:Nat→Env→Store→Prop,(∃ k σ',Store.sub σ' σ∧I k (e.keep live) σ')∧∀ k e σ,I k e σ →
     bwp P b e σ (fun e' σ'=>∃ j σ'',j<k∧Store.sub σ'' σ'∧I j (Env.keep e' live) σ'') r x
 | .both a b,e,σ,n,r,x=>bwp P a e σ n r x∧bwp P b e σ n r x
 | .top,_,_,_,_,_=>True
 | .wk _ b,e,σ,n,r,x=>WeakE e σ (fun e σ=>bwp P b e σ n r x)
def Lv (n:Env→Store→Prop) (f:FE) (σ:Store):Prop:=∃ e:Env,subF e.get f∧n e σ
theorem vw (e:Env):∀ live,subF (e.keep live).get e.get
 | [],t,a,h=>by simp [Env.keep,Env.get] at h
 | u::r,t,a,h=>by
   simp only [Env.keep] at h
   split at h
   ·rename_i b hb
    simp only [Env.get] at h
    split at h
    ·rename_i he;subst he;cases h;exact hb
    ·exact vw e r t a h
   ·exact vw e r t a h
theorem qu {e:Env} {f:FE} (h:subF e.get f) {x:Opd} {a:AV} (hx:ev e x=some a):fev f x=some a:=by
 cases x with
 | t n=>exact h n a hx
 | c b=>exact hx
theorem vj {e:Env} {f:FE} (h:subF e.get f):∀ {xs:List Opd} {as:List AV},evs e xs=some as→xs.mapM (fev f)=some as
 | [],as,hx=>by cases hx;rfl
 | x::xs,as,hx=>by
   simp only [evs] at hx
   split at hx
   ·rename_i a ha
    split at hx
    ·rename_i as' has
     cases hx
     simp [List.mapM_cons,qu h ha,vj h has]
    ·cases hx
   ·cases hx
theorem qd {e:Env} {f:FE} (h:subF e.get f) (d:Option Nat) (a:AV):subF (Env.putO d a e).get (f.put d a):=by
 intro t b ht
 cases d with
 | none=>exact h t b ht
 | some u =>
   simp only [Env.putO,Env.get] at ht
   simp only [FE.put]
   split at ht
   ·rename_i he;rw [if_pos he];exact ht
   ·rename_i he;rw [if_neg he];exact h t b ht
theorem z13 {e:Env} {f:FE} (h:subF e.get f) {t:Nat} {a:AV} (ha:e.get t=some a):subF (Env.get ((t,a)::e)) f:=by
 intro u b hu
 simp only [Env.get] at hu
 split at hu
 ·rename_i he;subst he;cases hu;exact h _ _ ha
 ·exact h u b hu
section
variable {P:Program}
theorem z4p {d:Option Nat} {g:Option (Nat×Bool)} {k:BK} {xs:List Opd} {e:Env} {σ:Store} {K:Env→Store→Prop} {f:FE} {K':AV→Store→Prop} (hs:subF e.get f)
 (h:bop P d k xs e σ K) (hK:∀ a s,K (Env.putO d a e) s→K' a s):((⟨d,g,k,xs⟩:BOp).exec f).run P σ K':=by
 unfold bop at h
 unfold BOp.exec
 cases k <;> simp only at h ⊢
 ·split at h
  ·rename_i as has
   obtain ⟨a,h1,h2⟩:=h
   simp only [vj hs has,h1]
   exact hK _ _ h2
  ·exact h.elim
 ·split at h
  ·rename_i c x y
   split at h
   ·rename_i v hv
    simp only [qu hs hv]
    cases v
    ·obtain ⟨a,h1,h2⟩:=h.2 rfl
     simp only [qu hs h1]
     exact hK _ _ h2
    ·obtain ⟨a,h1,h2⟩:=h.1 rfl
     simp only [qu hs h1]
     exact hK _ _ h2
   ·exact h.elim
  ·exact h.elim
 ·split at h
  ·rename_i as has
   obtain ⟨a,h1,h2⟩:=h
   simp only [vj hs has]
   exact ⟨a,h1,hK _ _ h2⟩
  ·exact h.elim
 ·split at h
  ·rename_i as has
   obtain ⟨⟨o,g⟩,h1,h2⟩:=h
   simp only [vj hs has,h1]
   exact fun id hid=>hK _ _ (h2 id hid)
  ·exact h.elim
 ·split at h
  ·rename_i as has
   simp only [vj hs has]
   exact TT.run_mono (t := .loud _ as) (fun a s h=>hK a s h) h
  ·exact h.elim
 ·split at h
  ·rename_i as has
   simp only [vj hs has]
   exact ACalls.mono h fun a s ⟨h1,h2⟩=>⟨h1,hK a _ h2⟩
  ·exact h.elim
theorem wo:∀ (l:List BOp) (e:Env) (σ:Store) (K:Env→Store→Prop) (f:FE),subF e.get f→bops P l e σ K→fops P l f σ (Lv K)
 | [],e,σ,K,f,hs,h=>⟨e,hs,h⟩
 | ⟨d,none,k,xs⟩::r,e,σ,K,f,hs,h=>by
   simp only [bops] at h
   simp only [fops,BOp.tt]
   exact z4p hs h fun a s h'=>wo r _ s K _ (qd hs d a) h'
 | ⟨d,some (t,b),k,xs⟩::r,e,σ,K,f,hs,h=>by
   simp only [bops] at h
   simp only [fops,BOp.tt]
   split at h
   ·rename_i v hv
    simp only [hs t _ hv]
    by_cases hvb:v=b
    ·rw [if_pos hvb]
     subst hvb
     exact z4p (z13 hs hv) (h.1 rfl) fun a s h'=>wo r _ s K _ (qd (z13 hs hv) d a) h'
    ·rw [if_neg hvb]
     have hn:v = !b:=by cases v <;> cases b <;> simp_all
     subst hn
     exact wo r _ σ K _ (qd (z13 hs hv) d _) (h.2 rfl)
   ·rename_i hv
    simp only [hs t _ hv]
    exact wo r _ σ K _ (qd hs d _) h
   ·exact h.elim
theorem qv:∀ (l:List BOp) (f:FE) (σ:Store) (K K':FE→Store→Prop),(∀ f s,K f s→K' f s)→fops P l f σ K→fops P l f σ K'
 | [],f,σ,K,K',h,hf=>h _ _ hf
 | b::r,f,σ,K,K',h,hf=>TT.run_mono (fun a s h'=>qv r _ s K K' h h') hf
theorem ye:∀ (c:BC) (f:FE) (σ:Store) (n n' r r':FE→Store→Prop) (x x':Nat→FE→Store→Prop),(∀ f s,n f s→n' f s)→(∀ f s,r f s→r' f s)→(∀ i f s,x i f s→x' i f s) →
 fwp P c f σ n r x→fwp P c f σ n' r' x'
 | .skip,f,σ,n,n',r,r',x,x',h1,h2,h3,h=>h1 _ _ h
 | .ret,f,σ,n,n',r,r',x,x',h1,h2,h3,h=>h2 _ _ h
 | .exit i,f,σ,n,n',r,r',x,x',h1,h2,h3,h=>h3 _ _ _ h
 | .seq a b,f,σ,n,n',r,r',x,x',h1,h2,h3,h=>ye a f σ _ _ r r' x x' (fun f s h'=>ye b f s n n' r r' x x' h1 h2 h3 h') h2 h3 h
 | .cond c a b,f,σ,n,n',r,r',x,x',h1,h2,h3,h=>by
   obtain ⟨v,e1,e2,e3⟩:=h
   exact ⟨v,e1,fun hv=>ye a f σ n n' r r' x x' h1 h2 h3 (e2 hv),fun hv=>ye b f σ n n' r r' x x' h1 h2 h3 (e3 hv)⟩
 | .block id b,f,σ,n,n',r,r',x,x',h1,h2,h3,h=>ye b f σ n n' r r' _ _ h1 h2 (fun i f s h'=>by
     split at h'
     ·rename_i he;rw [if_pos he];exact h1 _ _ h'
     ·rename_i he;rw [if_neg he];exact h3 _ _ _ h') h
 | .ops l live,f,σ,n,n',r,r',x,x',h1,h2,h3,h=>qv l f σ n n' h1 h
 | .loop live b,f,σ,n,n',r,r',x,x',h1,h2,h3,h=>by
   obtain ⟨I,h0,hr⟩:=h
   exact ⟨I,h0,fun k f s hI=>ye b f s _ _ r r' x x' (fun _ _ h=>h) h2 h3 (hr k f s hI)⟩
 | .both a b,f,σ,n,n',r,r',x,x',h1,h2,h3,h=>⟨ye a f σ n n' r r' x x' h1 h2 h3 h.1,ye b f σ n n' r r' x x' h1 h2 h3 h.2⟩
 | .top,f,σ,n,n',r,r',x,x',h1,h2,h3,h=>trivial
 | .wk _ b,f,σ,n,n',r,r',x,x',h1,h2,h3,h=>fun G w vs hs hv=>by
   obtain ⟨G',f',σ',g1,g2,g3,g4⟩:=h G w vs hs hv
   exact ⟨G',f',σ',g1,g2,g3,ye b f' σ' n n' r r' x x' h1 h2 h3 g4⟩
theorem x9:∀ (c:BC) (e:Env) (σ:Store) (n r:Env→Store→Prop) (x:Nat→Env→Store→Prop) (f:FE),subF e.get f→bwp P c e σ n r x→fwp P c f σ (Lv n) (Lv r) (fun i=>Lv (x i))
 | .skip,e,σ,n,r,x,f,hs,h=>⟨e,hs,h⟩
 | .ret,e,σ,n,r,x,f,hs,h=>⟨e,hs,h⟩
 | .exit i,e,σ,n,r,x,f,hs,h=>⟨e,hs,h⟩
 | .seq a b,e,σ,n,r,x,f,hs,h=>by
   have:=x9 a e σ _ r x f hs h
   exact ye a f σ _ _ _ _ _ _ (fun f' s ⟨e',h1,h2⟩=>x9 b e' s n r x f' h1 h2) (fun _ _ h=>h) (fun _ _ _ h=>h) this
 | .cond c a b,e,σ,n,r,x,f,hs,h=>by
   simp only [bwp] at h
   split at h
   ·rename_i v hv
    exact ⟨v,qu hs hv,fun ht=>x9 a e σ n r x f hs (h.1 ht),fun ht=>x9 b e σ n r x f hs (h.2 ht)⟩
   ·exact h.elim
 | .block id b,e,σ,n,r,x,f,hs,h=>by
   have:=x9 b e σ n r _ f hs h
   refine ye b f σ _ _ _ _ _ _ (fun _ _ h=>h) (fun _ _ h=>h) (fun i f' s ⟨e',h1,h2⟩ => ?_) this
   split at h2
   ·rename_i he;rw [if_pos he];exact ⟨e',h1,h2⟩
   ·rename_i he;rw [if_neg he];exact ⟨e',h1,h2⟩
 | .ops l live,e,σ,n,r,x,f,hs,h=>by
   have:=wo l e σ _ f hs h
   exact qv l f σ _ _ (fun f' s ⟨e',h1,h2⟩=>⟨_,fun t a ht=>h1 t a (vw e' live t a ht),h2⟩) this
 | .loop live b,e,σ,n,r,x,f,hs,h=>by
   obtain ⟨I,⟨k,σ',h0s,h0⟩,hr⟩:=h
   refine ⟨fun k f s=>∃ e',e'.get=f∧I k e' s,⟨k,_,σ',fun t a ht=>hs t a (vw e live t a ht),h0s,_,rfl,h0⟩,?_⟩
   rintro k f' s ⟨e',rfl,hI⟩
   have:=x9 b e' s _ r x e'.get (fun _ _ h=>h) (hr k e' s hI)
   refine ye b _ s _ _ _ _ _ _ (fun f'' s' ⟨e'',h1,j,σ'',h2,h3,h4⟩ => ?_) (fun _ _ h=>h) (fun _ _ _ h=>h) this
   exact ⟨j,_,σ'',h2,fun t a ht=>h1 t a (vw e'' live t a ht),h3,_,rfl,h4⟩
 | .both a b,e,σ,n,r,x,f,hs,h=>⟨x9 a e σ n r x f hs h.1,x9 b e σ n r x f hs h.2⟩
 | .top,_,_,_,_,_,_,_,_=>trivial
 | .wk _ b,e,σ,n,r,x,f,hs,h=>fun G w vs hsim hv=>by
   obtain ⟨G',e',σ',g1,g2,g3,g4⟩:=h G w vs hsim (fun t v ht=>hv t v (hs t v ht))
   exact ⟨G',e'.get,σ',g1,g2,g3,x9 b e' σ' n r x e'.get (fun _ _ h=>h) g4⟩
def Env.rs (e:Env) (σ:Store):RS→Option AV
 | .t n=>e.get n
 | .c n sz true=>match e.get n with
   | some p=>(rd σ sz p).map .agg
   | none=>none
 | .c n _ false=>match e.get n with
   | some p=>one (rd σ 1 p)
   | none=>none
def Env.gets (e:Env) (σ:Store):List RS→Option (List AV)
 | []=>some []
 | t::r=>match e.rs σ t with
   | some a=>match Env.gets e σ r with
     | some as=>some (a::as)
     | none=>none
   | none=>none
def Env.res (e:Env) (σ:Store):List RS→Option AV
 | [t]=>e.rs σ t
 | ts=>(e.gets σ ts).map .tup
theorem z7j {e:Env} {f:FE} {σ:Store} (h:subF e.get f) {t:RS} {a:AV} (hx:e.rs σ t=some a):rsF f σ t=some a:=by
 unfold Env.rs at hx
 unfold rsF
 split at hx
 ·exact h _ _ hx
 ·split at hx
  ·rename_i hp;simp only [h _ _ hp,Option.bind_some];exact hx
  ·cases hx
 ·split at hx
  ·rename_i hp;simp only [h _ _ hp,Option.bind_some];exact hx
  ·cases hx
theorem z3m {e:Env} {f:FE} {σ:Store} (h:subF e.get f):∀ {ts:List RS} {as:List AV},e.gets σ ts=some as→ts.mapM (fun t=>rsF f σ t)=some as
 | [],as,hx=>by cases hx;rfl
 | t::ts,as,hx=>by
   simp only [Env.gets] at hx
   split at hx
   ·rename_i a ha
    split at hx
    ·rename_i as' has
     cases hx
     simp [List.mapM_cons,z7j h ha,z3m h has]
    ·cases hx
   ·cases hx
theorem z5a {e:Env} {f:FE} {σ:Store} (h:subF e.get f) {ts:List RS} {a:AV} (hx:e.res σ ts=some a):resF f σ ts=some a:=by
 unfold Env.res at hx
 unfold resF
 split at hx
 ·exact z7j h hx
 ·rename_i hne
  obtain ⟨as,h1,rfl⟩:=Option.map_eq_some_iff.1 hx
  split
  ·rename_i t;exact absurd rfl (hne t)
  ·simp [z3m h h1]
def argE:Nat→List AV→Env
 | _,[]=>[]
 | i,a::r=>(i,a)::argE (i+1) r
theorem z36:∀ (args:List AV) (i t:Nat) (a:AV),(argE i args).get t=some a→i≤t∧args[t - i]? = some a
 | [],i,t,a,h=>by simp [argE,Env.get] at h
 | b::r,i,t,a,h=>by
   simp only [argE,Env.get] at h
   split at h
   ·rename_i he;subst he;cases h;exact ⟨Nat.le_refl _,by simp⟩
   ·obtain ⟨h1,h2⟩:=z36 r (i+1) t a h
    refine ⟨by omega,?_⟩
    rw [show t - i=(t - (i+1))+1 by omega,List.getElem?_cons_succ];exact h2
structure Fn (P:Program) (fi:Nat) where
 b:BC
 slots:List RS
 N:Nat
 ok:∃ fn c,P.funcs[fi]? = some fn∧(fn.name == "runtime.NumGoroutine")=false∧fn.body=some c∧fn.ntmps=N∧CC P fn.ntmps c b∧fn.results.toList.mapM (compRS P)=some slots
def Ends (slots:List RS) (Q:AV→Store→Prop) (e:Env) (σ:Store):Prop:=∃ a,e.res σ slots=some a∧Weak a σ Q
theorem z2c {fi:Nat} (F:Fn P fi) {args:List AV} {σ:Store} {Q:AV→Store→Prop} (hargs:args.length≤F.N)
 (h:bwp P F.b (argE 0 args) σ (Ends F.slots Q) (Ends F.slots Q) (fun _ _ _=>False)):ACalls P fi args σ Q:=by
 obtain ⟨fn,c,h1,h2,h3,h4,h5,h6⟩:=F.ok
 refine z2z h1 h2 h3 h5 h6 (by rw [h4];exact hargs) ?_
 have:=x9 F.b (argE 0 args) σ _ _ _ (fun t=>args[t]?) (fun t a ht=>by
  have:=(z36 args 0 t a ht).2;simpa using this) h
 exact ye F.b _ σ _ _ _ _ _ _ (fun f s ⟨e,h1,a,h2,h3⟩=>⟨a,z5a h1 h2,h3⟩) (fun f s ⟨e,h1,a,h2,h3⟩=>⟨a,z5a h1 h2,h3⟩) (fun i f s ⟨e,h1,h2⟩=>h2) this
end
end Go.Am
namespace Go.Am
def prio (b:BOp):Nat :=
 match b.kind with
 | .pure _ | .pick=>0
 | .load _=>1
 | .qcall _=>2
 | .alloc _=>3
 | .loud _ | .bad=>4
def readyNow (ops:Array Oper) (done:List Nat) (i:Nat):Bool :=
 !done.contains i && match ops[i]? with
   | some o=>o.after.toList.all fun e => !Region.binds .any e || done.contains e.on
   | none=>false
def best (B:List BOp):List Nat→Option Nat
 | []=>none
 | i::r=>match best B r with
   | some j=>if ((B[i]?).map prio).getD 9≤((B[j]?).map prio).getD 9 then some i else some j
   | none=>some i
def canon (ops:Array Oper) (B:List BOp):Nat→List Nat→List Nat
 | 0,_=>[]
 | n+1,done=>match best B ((List.range ops.size).filter (readyNow ops done)) with
   | some i=>i::canon ops B n (i::done)
   | none=>[]
def depsOf (ops:Array Oper):List (List Nat) :=
 ops.toList.foldl (fun D o=>D++[(o.after.toList.foldl (fun s e=>if Region.binds .any e then (e.on::(D.getD e.on []))++s else s) []).eraseDups]) []
def deTree (B:List BOp):IT→Option BC
 | .leaf=>some (.ops [] [])
 | .op i t=>match B[i]?,deTree B t with
   | some b,some c=>some (.seq (.ops [b] []) c)
   | _,_=>none
 | .alt i t r=>match B[i]?,deTree B t,deTree B r with
   | some b,some c,some d=>some (.both (.seq (.ops [b] []) c) d)
   | _,_,_=>none
 | .stop=>some .top
theorem u9 {B:List BOp}:∀ {t:IT} {c:BC},deTree B t=some c→DS B t c
 | .leaf,c,h=>by cases h;exact .leaf
 | .stop,c,h=>by cases h;exact .stop
 | .op i t,c,h=>by
   simp only [deTree] at h
   split at h
   ·rename_i h1 h2;cases h;exact .op h1 (u9 h2)
   ·cases h
 | .alt i t r,c,h=>by
   simp only [deTree] at h
   split at h
   ·rename_i h1 h2 h3;cases h;exact .alt h1 (u9 h2) (u9 h3)
   ·cases h
def ins (x:Nat):List Nat→List Nat
 | []=>[x]
 | y::r=>if x<y then x::y::r else if x=y then y::r else y::ins x r
def uni (a b:List Nat):List Nat:=a.foldl (fun s x=>ins x s) b
def liveOps (l:List BOp) (out:List Nat):List Nat :=
 l.foldr (fun o s =>
  let s:=match o.dst with
   | some d=>s.filter (· != d)
   | none=>s
  uni o.looks s) out
def annot (ret:List Nat):BC→List Nat→List (Nat×List Nat)→BC×List Nat
 | .skip,out,_=>(.skip,out)
 | .ret,_,_=>(.ret,ret)
 | .exit i,_,x=>(.exit i,(x.lookup i).getD [])
 | .seq a b,out,x =>
   let (b',m):=annot ret b out x
   let (a',i):=annot ret a m x
   (.seq a' b',i)
 | .cond c a b,out,x =>
   let (a',i):=annot ret a out x
   let (b',j):=annot ret b out x
   (.cond c a' b',uni (c.slot) (uni i j))
 | .block id b,out,x =>
   let (b',i):=annot ret b out ((id,out)::x)
   (.block id b',i)
 | .ops l _,out,_=>(.ops l out,liveOps l out)
 | .loop _ b,_,x =>
   let i1:=(annot ret b [] x).2
   let i2:=(annot ret b i1 x).2
   let (b',i3):=annot ret b (uni i1 i2) x
   (.loop (uni i3 (uni i1 i2)) b',uni i3 (uni i1 i2))
 | .both a b,out,x =>
   let (a',i):=annot ret a out x
   let (b',j):=annot ret b out x
   (.both a' b',uni i j)
 | .top,_,_=>(.top,[])
 | .wk k b,out,x =>
   let (b',i):=annot ret b out x
   (.wk k b',i)
theorem DS.annot {B:List BOp} {ret:List Nat} {t:IT} {b:BC} (h:DS B t b):∀ out x,DS B t (annot ret b out x).1:=by
 induction h with
 | leaf=>exact fun _ _ => .leaf
 | op h _ ih=>exact fun out x => .op h (ih _ _)
 | alt h _ _ ih1 ih2=>exact fun out x => .alt h (ih1 _ _) (ih2 _ _)
 | stop=>exact fun _ _ => .stop
theorem z33 {P:Program} {N:Nat} {ret:List Nat} {c:Code} {b:BC} (h:CC P N c b):∀ out x,CC P N c (annot ret b out x).1:=by
 induction h with
 | skip=>exact fun _ _ => .skip
 | label=>exact fun _ _ => .label
 | ret=>exact fun _ _ => .ret
 | exit=>exact fun _ _ => .exit
 | seq _ _ ih1 ih2=>exact fun out x => .seq (ih1 _ _) (ih2 _ _)
 | cond h _ _ ih1 ih2=>exact fun out x => .cond h (ih1 _ _) (ih2 _ _)
 | block _ ih=>exact fun out x => .block (ih _ _)
 | ops h=>exact fun _ _ => .ops h
 | draw h1 h2 h3 h4 h5=>exact fun _ _ => .draw h1 h2 h3 h4 h5
 | tree h1 h2 h3 h4 h5=>exact fun out x => .tree h1 h2 h3 h4 (h5.annot out x)
 | scope _ ih=>exact fun out x => .scope (ih _ _)
 | loop _ ih=>exact fun out x => .loop (ih _ _)
 | wk _ ih=>exact fun out x => .wk (ih _ _)
end Go.Am
