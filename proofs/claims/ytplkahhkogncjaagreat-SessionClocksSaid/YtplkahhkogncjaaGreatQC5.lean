/- A part of the proof: a logic for calls over plain values, and the functions that the law reaches, each walked once. -/
import Derived.Test.YtplkahhkogncjaaGreatQC4
set_option linter.unusedVariables false
set_option linter.unusedSimpArgs false
set_option linter.unusedSectionVars false
namespace Go.Am
theorem z93 {α:Type} {x:α} {K:α→Prop}:(∃ a,some x=some a∧K a)↔K x:=by simp
theorem z92 {α:Type} {K:α→Prop}:(∃ a,(none:Option α)=some a∧K a)↔False:=by simp
theorem zau {α:Type} {c:Prop} [Decidable c] {x:Option α} {K:α→Prop}:(∃ a,(if c then x else none)=some a∧K a)↔c∧∃ a,x=some a∧K a:=by
 by_cases h:c <;> simp [h]
theorem z91 {α:Type} {c:Prop} [Decidable c] {x:Option α} {K:α→Prop}:(∃ a,(if c then none else x)=some a∧K a)↔¬ c∧∃ a,x=some a∧K a:=by
 by_cases h:c <;> simp [h]
theorem zav {α β:Type} {o:Option α} {f:α→β} {K:β→Prop}:(∃ a,o.map f=some a∧K a)↔∃ b,o=some b∧K (f b):=by
 cases o <;> simp
theorem z90 {α β:Type} {o:Option α} {f:α→Option β} {K:β→Prop}:(∃ a,o.bind f=some a∧K a)↔∃ b,o=some b∧∃ a,f b=some a∧K a:=by
 cases o <;> simp
theorem zat {α:Type} {l:List α} {i:Nat} {K:α→Prop}:(∃ a,l[i]? = some a∧K a)↔∃ h:i<l.length,K l[i]:=by
 constructor
 ·rintro ⟨a,h,k⟩;obtain ⟨h1,rfl⟩:=List.getElem?_eq_some_iff.1 h;exact ⟨h1,k⟩
 ·rintro ⟨h,k⟩;exact ⟨_,List.getElem?_eq_getElem h,k⟩
theorem z38 {P:Program} {d:Option Nat} {k:BK} {xs:List Opd} {e:Env} {σ:Store} {K K':Env→Store→Prop} (hK:∀ e s,K e s→K' e s) (h:bop P d k xs e σ K):bop P d k xs e σ K':=by
 unfold bop at h ⊢
 split at h
 ·split at h
  ·obtain ⟨a,h1,h2⟩:=h;exact ⟨a,h1,hK _ _ h2⟩
  ·exact h.elim
 ·split at h
  ·split at h
   ·exact ⟨fun hv=>by obtain ⟨a,h1,h2⟩:=h.1 hv;exact ⟨a,h1,hK _ _ h2⟩,fun hv=>by obtain ⟨a,h1,h2⟩:=h.2 hv;exact ⟨a,h1,hK _ _ h2⟩⟩
   ·exact h.elim
  ·exact h.elim
 ·split at h
  ·obtain ⟨a,h1,h2⟩:=h;exact ⟨a,h1,hK _ _ h2⟩
  ·exact h.elim
 ·split at h
  ·obtain ⟨a,h1,h2⟩:=h;exact ⟨a,h1,fun id hid=>hK _ _ (h2 id hid)⟩
  ·exact h.elim
 ·split at h
  ·exact TT.run_mono (t := .loud _ _) (fun a s h'=>hK _ _ h') h
  ·exact h.elim
 ·split at h
  ·exact ACalls.mono h fun a s ⟨h1,h2⟩=>⟨h1,hK _ _ h2⟩
  ·exact h.elim
 ·exact h
theorem wt {P:Program}:∀ (l:List BOp) (e:Env) (σ:Store) (K K':Env→Store→Prop),(∀ e s,K e s→K' e s)→bops P l e σ K→bops P l e σ K'
 | [],e,σ,K,K',hK,h=>hK _ _ h
 | ⟨d,none,k,xs⟩::r,e,σ,K,K',hK,h=>z38 (fun e s h'=>wt r e s K K' hK h') h
 | ⟨d,some (t,b),k,xs⟩::r,e,σ,K,K',hK,h=>by
   simp only [bops] at h ⊢
   split at h
   ·exact ⟨fun hv=>z38 (fun e s h'=>wt r e s K K' hK h') (h.1 hv),fun hv=>wt r _ _ K K' hK (h.2 hv)⟩
   ·exact wt r _ _ K K' hK h
   ·exact h.elim
theorem yi {P:Program}:∀ (c:BC) (e:Env) (σ:Store) (n n' r r':Env→Store→Prop) (x x':Nat→Env→Store→Prop),(∀ e s,n e s→n' e s)→(∀ e s,r e s→r' e s)→(∀ i e s,x i e s→x' i e s) →
 bwp P c e σ n r x→bwp P c e σ n' r' x'
 | .skip,e,σ,n,n',r,r',x,x',h1,h2,h3,h=>h1 _ _ h
 | .ret,e,σ,n,n',r,r',x,x',h1,h2,h3,h=>h2 _ _ h
 | .exit i,e,σ,n,n',r,r',x,x',h1,h2,h3,h=>h3 _ _ _ h
 | .seq a b,e,σ,n,n',r,r',x,x',h1,h2,h3,h=>yi a e σ _ _ r r' x x' (fun e s h'=>yi b e s n n' r r' x x' h1 h2 h3 h') h2 h3 h
 | .cond c a b,e,σ,n,n',r,r',x,x',h1,h2,h3,h=>by
   simp only [bwp] at h ⊢
   split at h
   ·exact ⟨fun hv=>yi a e σ n n' r r' x x' h1 h2 h3 (h.1 hv),fun hv=>yi b e σ n n' r r' x x' h1 h2 h3 (h.2 hv)⟩
   ·exact h.elim
 | .block id b,e,σ,n,n',r,r',x,x',h1,h2,h3,h=>yi b e σ n n' r r' _ _ h1 h2 (fun i f s h'=>by
     split at h'
     ·rename_i he;rw [if_pos he];exact h1 _ _ h'
     ·rename_i he;rw [if_neg he];exact h3 _ _ _ h') h
 | .ops l live,e,σ,n,n',r,r',x,x',h1,h2,h3,h=>wt l e σ _ _ (fun e s h'=>h1 _ _ h') h
 | .loop live b,e,σ,n,n',r,r',x,x',h1,h2,h3,h=>by
   obtain ⟨I,h0,hr⟩:=h
   exact ⟨I,h0,fun k e s hI=>yi b e s _ _ r r' x x' (fun _ _ h=>h) h2 h3 (hr k e s hI)⟩
 | .both a b,e,σ,n,n',r,r',x,x',h1,h2,h3,h=>⟨yi a e σ n n' r r' x x' h1 h2 h3 h.1,yi b e σ n n' r r' x x' h1 h2 h3 h.2⟩
 | .top,_,_,_,_,_,_,_,_,_,_,_,_=>trivial
 | .wk _ b,e,σ,n,n',r,r',x,x',h1,h2,h3,h=>fun G w vs hs hv=>by
   obtain ⟨G',e',σ',g1,g2,g3,g4⟩:=h G w vs hs hv
   exact ⟨G',e',σ',g1,g2,g3,yi b e' σ' n n' r r' x x' h1 h2 h3 g4⟩
section
variable {P:Program} {e:Env} {σ:Store} {n r:Env→Store→Prop} {x:Nat→Env→Store→Prop}
theorem zfg:bwp P .skip e σ n r x↔n e σ:=Iff.rfl
theorem zhi:bwp P .ret e σ n r x↔r e σ:=Iff.rfl
theorem zff {i:Nat}:bwp P (.exit i) e σ n r x↔x i e σ:=Iff.rfl
theorem zhj {a b:BC}:bwp P (.seq a b) e σ n r x↔bwp P a e σ (fun e σ=>bwp P b e σ n r x) r x:=Iff.rfl
theorem zcv {i:Nat} {b:BC}:bwp P (.block i b) e σ n r x↔bwp P b e σ n r (fun j e σ=>if j=i then n e σ else x j e σ):=Iff.rfl
theorem zhg {l:List BOp} {live:List Nat}:bwp P (.ops l live) e σ n r x↔bops P l e σ (fun e σ=>n (e.keep live) σ):=Iff.rfl
theorem zfe {a b:BC}:bwp P (.both a b) e σ n r x↔bwp P a e σ n r x∧bwp P b e σ n r x:=Iff.rfl
theorem zhk:bwp P .top e σ n r x↔True:=Iff.rfl
theorem zj2 {c:Opd} {a b:BC}:bwp P (.cond c a b) e σ n r x↔(match ev e c with
 | some (.bool v)=>(v=true→bwp P a e σ n r x)∧(v=false→bwp P b e σ n r x)
 | _=>False):=Iff.rfl
end
end Go.Am
namespace Go.Am
theorem Store.sub_upd {σ τ:Store} {i:Nat} {o:Obj} (h:Store.sub σ τ) (hi:σ i=none):Store.sub σ (τ.set i o):=fun j p hj=>by
 simp only [Store.set];split
 ·rename_i e;subst e;rw [hi] at hj;cases hj
 ·exact h j p hj
theorem z8n {slots:List RS} {e:Env} {τ σ:Store} {Q:AV→Store→Prop} (h:∃ a,e.res τ slots=some a∧Store.sub σ τ∧Q a σ):Ends slots Q e τ:=by
 obtain ⟨a,h1,h2,h3⟩:=h
 exact ⟨a,h1,Weak.forget h2 (Weak.pure h3)⟩
theorem z0r {slots:List RS} {e:Env} {τ σ:Store} {v:AV}:(e.res τ slots=some v∧Store.sub σ τ)→Ends slots (fun a s=>s=σ∧a=v) e τ:=fun h=>z8n ⟨v,h.1,h.2,rfl,rfl⟩
def Pur (P:Program) (f:Nat) (args:List AV) (v:AV):Prop:=∀ σ,ACalls P f args σ (fun a s=>s=σ∧a=v)
theorem zw {P:Program} {fi:Nat} (F:Fn P fi) {args:List AV} {v:AV} (hargs:args.length≤F.N)
 (h:∀ σ,bwp P F.b (argE 0 args) σ (fun e τ=>e.res τ F.slots=some v∧Store.sub σ τ) (fun e τ=>e.res τ F.slots=some v∧Store.sub σ τ) (fun _ _ _=>False)):Pur P fi args v:=fun σ =>
 z2c F hargs (yi _ _ _ _ _ _ _ _ _ (fun _ _ h=>z0r h) (fun _ _ h=>z0r h) (fun _ _ _ h=>h) (h σ))
theorem Pur.q {P:Program} {f:Nat} {args:List AV} {v:AV} (h:Pur P f args v) {σ:Store} {K:AV→Store→Prop} (hK:K v σ):ACalls P f args σ (fun a s=>s=σ∧K a σ) :=
 (h σ).mono fun a s ⟨h1,h2⟩=>⟨h1,h2 ▸ hK⟩
theorem Pur.c {P:Program} {f:Nat} {args:List AV} {v:AV} (h:Pur P f args v) {σ:Store} {K:AV→Store→Prop} (hK:K v σ):ACalls P f args σ K :=
 (h σ).mono fun a s ⟨h1,h2⟩=>h1 ▸ h2 ▸ hK
end Go.Am
namespace Go.Am
theorem zg5 {a b:Prop} (h:a↔b):a↔b:=h
def wit {α:Type} (o:Option α) (K:α→Prop):Prop:=∃ a,o=some a∧K a
class Hid where
 K:Prop
def gq (o:Option AV) (b:Bool) (A B:Prop) [c:Hid]:Prop:=match o with
 | some (.bool v)=>(v=b→A)∧(v=(!b)→B)
 | some (.tup [])=>c.K
 | _=>False
def cq (o:Option AV) (A B:Prop):Prop:=match o with
 | some (.bool v)=>(v=true→A)∧(v=false→B)
 | _=>False
theorem y7 {α:Type} {a:α} {K:α→Prop}:wit (some a) K↔K a:=z93
theorem zag {α:Type} {K:α→Prop}:wit (none:Option α) K↔False:=z92
theorem zcw {α:Type} {c:Prop} [Decidable c] {x:Option α} {K:α→Prop}:wit (if c then x else none) K↔c∧wit x K:=zau
theorem zaf {α:Type} {c:Prop} [Decidable c] {x:Option α} {K:α→Prop}:wit (if c then none else x) K↔¬ c∧wit x K:=z91
theorem zcx {α β:Type} {o:Option α} {f:α→β} {K:β→Prop}:wit (o.map f) K↔wit o fun b=>K (f b):=zav
theorem zae {α β:Type} {o:Option α} {f:α→Option β} {K:β→Prop}:wit (o.bind f) K↔wit o fun b=>wit (f b) K:=z90
theorem z8 {α:Type} {l:List α} {i:Nat} {K:α→Prop}:wit l[i]? K↔∃ h:i<l.length,K l[i]:=zat
theorem zi9 {A B:Prop} [Hid]:gq (some (.bool true)) true A B↔A:=by simp [gq]
theorem zi7 {A B:Prop} [Hid]:gq (some (.bool false)) false A B↔A:=by simp [gq]
theorem zfx {A B:Prop} [Hid]:gq (some (.bool true)) false A B↔B:=by simp [gq]
theorem zfu {A B:Prop} [Hid]:gq (some (.bool false)) true A B↔B:=by simp [gq]
theorem zi8 {A B:Prop} {b:Bool} [c:Hid]:gq (some (.tup [])) b A B↔c.K:=by simp [gq]
theorem zft {A B p:Prop} [Decidable p] [Hid]:gq (some (.bool (decide p))) true A B↔(p→A)∧(¬ p→B):=by simp [gq]
theorem zfs {A B p:Prop} [Decidable p] [Hid]:gq (some (.bool (decide p))) false A B↔(¬ p→A)∧(p→B):=by simp [gq]
theorem zfw {A B p:Prop} [Decidable p] [Hid]:gq (some (.bool (!decide p))) true A B↔(¬ p→A)∧(p→B):=by simp [gq]
theorem zfv {A B p:Prop} [Decidable p] [Hid]:gq (some (.bool (!decide p))) false A B↔(p→A)∧(¬ p→B):=by simp [gq]
theorem zfy {C:Prop}:(Hid.mk C).K↔C:=zg5 Iff.rfl
theorem zi6 {A B:Prop}:cq (some (.bool true)) A B↔A:=by simp [cq]
theorem zi4 {A B:Prop}:cq (some (.bool false)) A B↔B:=by simp [cq]
theorem zi3 {A B p:Prop} [Decidable p]:cq (some (.bool (decide p))) A B↔(p→A)∧(¬ p→B):=by simp [cq]
theorem zi5 {A B p:Prop} [Decidable p]:cq (some (.bool (!decide p))) A B↔(¬ p→A)∧(p→B):=by simp [cq]
@[congr] theorem wit_congr {α:Type} {o o':Option α} {K:α→Prop} (h:∀ _:Unit,o=o'):wit o K=wit o' K:=by rw [h ()]
@[congr] theorem gq_congr {o o':Option AV} {b:Bool} {A B:Prop} [Hid] (h:∀ _:Unit,o=o'):gq o b A B=gq o' b A B:=by rw [h ()]
@[congr] theorem cq_congr {o o':Option AV} {A B:Prop} (h:∀ _:Unit,o=o'):cq o A B=cq o' A B:=by rw [h ()]
@[congr] theorem bops_congr {P:Program} {l:List BOp} {e:Env} {σ σ':Store} {K:Env→Store→Prop} (h:∀ _:Unit,σ=σ'):bops P l e σ K=bops P l e σ' K:=by rw [h ()]
@[congr] theorem bwp_congr {P:Program} {c:BC} {e:Env} {σ σ':Store} {n r:Env→Store→Prop} {x:Nat→Env→Store→Prop} (h:∀ _:Unit,σ=σ'):bwp P c e σ n r x=bwp P c e σ' n r x:=by rw [h ()]
@[congr] theorem lwp_congr {P:Program} {lo:LO} {as:List AV} {σ σ':Store} {K:AV→Store→Prop} (h:∀ _:Unit,σ=σ'):lwp P lo as σ K=lwp P lo as σ' K:=by rw [h ()]
@[congr] theorem appwp_congr {a b:Nat} {x y:AV} {σ σ':Store} {K:AV→Store→Prop} (h:∀ _:Unit,σ=σ'):appwp a b x y σ K=appwp a b x y σ' K:=by rw [h ()]
section
variable {P:Program} {e:Env} {σ:Store} {d:Option Nat} {xs:List Opd} {K:Env→Store→Prop} {n r:Env→Store→Prop} {x:Nat→Env→Store→Prop}
theorem wu {K:List AV→Prop}:(match evs e xs with | some as=>K as | none=>False)↔wit (evs e xs) K:=by
 cases evs e xs <;> simp [wit]
theorem zfd {pk:PK}:bop P d (.pure pk) xs e σ K↔wit (evs e xs) fun as=>wit (pv pk as) fun a=>K (Env.putO d a e) σ:=by
 simp only [bop];exact wu
theorem zf9 {k:LK}:bop P d (.load k) xs e σ K↔wit (evs e xs) fun as=>wit (ldv k as σ) fun a=>K (Env.putO d a e) σ:=by
 simp only [bop];exact wu
theorem zcs {k:AK}:bop P d (.alloc k) xs e σ K↔wit (evs e xs) fun as=>wit (alv k as) fun p=>∀ id,σ id=none→K (Env.putO d (p.2 id) e) (σ.set id p.1):=by
 simp only [bop];exact wu
theorem zfb {k:LO}:bop P d (.loud k) xs e σ K↔wit (evs e xs) fun as=>lwp P k as σ (fun a σ'=>K (Env.putO d a e) σ'):=by
 simp only [bop];exact wu
theorem zcu {k:Nat}:bop P d (.qcall k) xs e σ K↔wit (evs e xs) fun as=>ACalls P k as σ (fun a s=>Store.sub σ s∧K (Env.putO d a e) s):=by
 simp only [bop];exact wu
theorem zhc:bop P d .bad xs e σ K↔False:=by simp only [bop]
theorem zfc {c a b:Opd}:bop P d .pick [c,a,b] e σ K↔cq (ev e c) (wit (ev e a) fun v=>K (Env.putO d v e) σ) (wit (ev e b) fun v=>K (Env.putO d v e) σ):=by
 simp only [bop,cq,wit]
 cases ev e c with
 | none=>rfl
 | some v=>cases v <;> rfl
theorem zhe:bops P [] e σ K↔K e σ:=Iff.rfl
theorem ziz {k:BK} {l:List BOp}:bops P (⟨d,none,k,xs⟩::l) e σ K↔bop P d k xs e σ (fun e σ=>bops P l e σ K):=Iff.rfl
theorem zhd {k:BK} {l:List BOp} {t:Nat} {b:Bool}:bops P (⟨d,some (t,b),k,xs⟩::l) e σ K ↔
 @gq (e.get t) b (bop P d k xs ((t,.bool b)::e) σ (fun e σ=>bops P l e σ K)) (bops P l (Env.putO d (.tup []) ((t,.bool (!b))::e)) σ K) ⟨bops P l (Env.putO d (.tup []) e) σ K⟩:=Iff.rfl
theorem zf8 {c:Opd} {a b:BC}:bwp P (.cond c a b) e σ n r x↔cq (ev e c) (bwp P a e σ n r x) (bwp P b e σ n r x):=Iff.rfl
end
end Go.Am
namespace Go.Am
class Kont where
 K:AV→Store→Prop
def CallQ (P:Program) (f:Nat) (as:List AV) (σ:Store) [k:Kont]:Prop:=ACalls P f as σ k.K
theorem v_acalls {P:Program} {f:Nat} {as:List AV} {σ:Store} {K:AV→Store→Prop}:ACalls P f as σ K ↔ @CallQ P f as σ ⟨K⟩:=Iff.rfl
theorem zct {P:Program} {f:Nat} {as:List AV} {σ:Store} {K:AV→Store→Prop}:lwp P (.call f) as σ K ↔ @CallQ P f as σ ⟨K⟩:=by cases as <;> simp only [lwp] <;> exact Iff.rfl
theorem zad {P:Program} {d:Option Nat} {xs:List Opd} {e:Env} {σ:Store} {K:Env→Store→Prop} {k:Nat}:bop P d (.qcall k) xs e σ K↔wit (evs e xs) fun as => @CallQ P k as σ ⟨fun a s=>Store.sub σ s∧K (Env.putO d a e) s⟩:=zcu
theorem Pur.Q {P:Program} {f:Nat} {args:List AV} {v:AV} (h:Pur P f args v) {σ:Store} {K:AV→Store→Prop} (hK:K v σ) : @CallQ P f args σ ⟨K⟩:=h.c hK
theorem Pur.q' {P:Program} {f:Nat} {args:List AV} {v:AV} (h:Pur P f args v) {σ:Store} {K:AV→Store→Prop} (hK:K v σ) : @CallQ P f args σ ⟨fun a s=>Store.sub σ s∧K a s⟩:=h.c ⟨Store.sub_refl _,hK⟩
end Go.Am
attribute [irreducible] Go.Am.CallQ
