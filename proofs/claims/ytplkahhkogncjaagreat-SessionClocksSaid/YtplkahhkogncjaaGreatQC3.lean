/- A part of the proof: a logic for calls over plain values, and the functions that the law reaches, each walked once. -/
import Derived.Test.YtplkahhkogncjaaGreatQC2
import Derived.Still
import Derived.Scope
set_option linter.unusedVariables false
set_option linter.unusedSimpArgs false
set_option linter.unusedSectionVars false
namespace Go.Am
section
variable {P:Program} {R:Ref} {N:Nat} {ops:Array Oper} {Q:Exit→Act→World→Prop}
def aAny (P:Program) (ops:Array Oper) (B:List BOp) (K:FE→Store→Prop):Nat→Array Bool→FE→Store→Prop
 | 0,listed,f,σ=>Region.ready .any ops listed=[]∧K f σ
 | n+1,listed,f,σ=>(Region.ready .any ops listed=[]→K f σ) ∧
   ∀ i ∈ Region.ready .any ops listed,∀ b,B[i]? = some b→(b.tt f).run P σ fun a s=>aAny P ops B K n (listed.setIfInBounds i true) (f.put b.dst a) s
theorem uu {dr:Bool} {B:List BOp} (hB:ops.toList.mapM (compOp P dr N ops)=some B) {K:FE→Store→Prop}
 (hq:∀ f' σ' a' w',St R N f' σ' a' w'→K f' σ'→Q .normal a' w'):∀ (n:Nat) (listed:Array Bool) (f:FE) (σ:Store) (a:Act) (w:World),
 St R N f σ a w→aAny P ops B K n listed f σ→wpAny P .any ops Q n listed a w
 | 0,listed,f,σ,a,w,hst,h=>⟨h.1,hq f σ a w hst h.2⟩
 | n+1,listed,f,σ,a,w,hst,h=>by
   refine ⟨fun h0=>hq f σ a w hst (h.1 h0),fun i hi => ?_⟩
   obtain ⟨hlt,o,ho,hall⟩:=mem_ready.1 hi
   obtain ⟨h1,h2⟩:=x8 hB
   have hil:i<ops.toList.length:=by
    have:=(Array.getElem?_eq_some_iff.1 ho).1;simpa using this
   have hib:i<B.length:=by rw [←h1];exact hil
   have hc:=h2 i hil hib
   have ho':ops.toList[i]=o:=by
    have:=(Array.getElem?_eq_some_iff.1 ho).2
    simpa using this
   rw [ho'] at hc
   have hrun:=h.2 i hi _ (List.getElem?_eq_getElem hib)
   have:=z3t (next:=wpAny P .any ops Q n (listed.setIfInBounds i true)) (Q:=Q) hc hst hrun
    (fun av σ' a' w' h3 h4=>uu hB hq n _ _ σ' a' w' h3 (by rw [z18 hc] at h4;exact h4))
   unfold wpOp
   simp only [ho]
   exact this
theorem z4a {x y:BOp} (h:apartB x y=true) :
 (∀ d,x.dst=some d→d ∉ y.looks)∧(∀ d,x.dst=some d→y.dst≠some d)∧(∀ d,y.dst=some d→d ∉ x.looks):=by
 refine ⟨fun d hd => ?_,fun d hd => ?_,fun d hd => ?_⟩ <;> simp [apartB,hd] at h
 ·exact h.1.1
 ·exact h.1.2
 ·exact h.2
def Down (ops:Array Oper) (listed:Array Bool):Prop :=
 ∀ j o,ops[j]? = some o→listed.getD j true=true→∀ e ∈ o.after,Region.binds .any e=true→listed.getD e.on false=true
def okDep (ops:Array Oper) (D:List (List Nat)):Bool :=
 (List.range ops.size).all fun j=>match ops[j]? with
   | some o=>(D.getD j []).all fun i=>o.after.toList.any fun e=>Region.binds .any e && decide (e.on<j) && (e.on ==i || (D.getD e.on []).contains i)
   | none=>false
def dep (D:List (List Nat)) (j i:Nat):Bool:=(D.getD j []).contains i
theorem z1x {D:List (List Nat)} (hD:okDep ops D=true) {listed:Array Bool} (hd:Down ops listed) (i:Nat):∀ (j:Nat) (o:Oper),ops[j]? = some o→dep D j i=true →
 (∀ e ∈ o.after,Region.binds .any e=true→listed.getD e.on false=true)→listed.getD i false=true:=by
 intro j
 induction j using Nat.strongRecOn with
 | _ j ih =>
   intro o ho h hall
   have hj:j<ops.size:=(Array.getElem?_eq_some_iff.1 ho).1
   have h1:=List.all_eq_true.1 hD j (List.mem_range.2 hj)
   simp only [ho] at h1
   have h2:=List.all_eq_true.1 h1 i (by simpa [dep] using h)
   obtain ⟨e,he,h3⟩:=List.any_eq_true.1 h2
   simp only [Bool.and_eq_true,decide_eq_true_eq,Bool.or_eq_true,beq_iff_eq] at h3
   obtain ⟨⟨hb,hlt⟩,h3⟩:=h3
   have hl:=hall e (by simpa using he) hb
   rcases h3 with h3 | h3
   ·rw [←h3];exact hl
   ·have hes:e.on<ops.size:=by omega
    refine ih e.on hlt ops[e.on] (Array.getElem?_eq_getElem hes) h3 (hd e.on _ (Array.getElem?_eq_getElem hes) ?_)
    rw [Array.getD_eq_getD_getElem?] at hl ⊢
    cases hx:listed[e.on]? with
    | none=>rfl
    | some b=>rw [hx] at hl;exact hl
theorem Down.set {listed:Array Bool} (hd:Down ops listed) {i:Nat} (hi:i ∈ Region.ready .any ops listed):Down ops (listed.setIfInBounds i true):=by
 obtain ⟨hun,oi,hoi,hall⟩:=mem_ready.1 hi
 have hmono:∀ k,listed.getD k false=true→(listed.setIfInBounds i true).getD k false=true:=fun k hk=>by
  rw [Array.getD_eq_getD_getElem?] at hk ⊢
  by_cases h:i=k
  ·subst h
   cases hx:listed[i]? with
   | none=>rw [hx] at hk;cases hk
   | some b=>have:=(Array.getElem?_eq_some_iff.1 hx).1;simp [this]
  ·rw [Array.getElem?_setIfInBounds_ne h];exact hk
 intro j o ho hl e he hb
 by_cases h:i=j
 ·subst h
  rw [hoi] at ho;cases ho
  exact hmono _ (hall e he hb)
 ·refine hmono _ (hd j o ho ?_ e he hb)
  rw [Array.getD_eq_getD_getElem?] at hl ⊢
  rwa [Array.getElem?_setIfInBounds_ne h] at hl
def unl (n:Nat) (listed:Array Bool):Nat:=((List.range n).filter fun k => !listed.getD k true).length
theorem vp {n:Nat} {listed:Array Bool} {i:Nat} (hi:listed.getD i true=false) (hin:i<n):unl n (listed.setIfInBounds i true)+1=unl n listed:=by
 have key:∀ n,i<n→unl n (listed.setIfInBounds i true)+1=unl n listed:=by
  have hsame:∀ k,k≠i→(listed.setIfInBounds i true).getD k true=listed.getD k true:=fun k hk=>getD_set_ne true (Ne.symm hk)
  have hself:(listed.setIfInBounds i true).getD i true=true:=by
   rw [Array.getD_eq_getD_getElem?]
   cases hx:(listed.setIfInBounds i true)[i]? with
   | none=>rfl
   | some b =>
     have hlt:=(Array.getElem?_eq_some_iff.1 hx).1
     simp at hlt
     simp [hlt] at hx
     simp [←hx]
  have hlow:∀ n,n≤i→unl n (listed.setIfInBounds i true)=unl n listed:=fun n hn=>by
   unfold unl
   congr 1
   apply List.filter_congr
   intro k hk
   rw [hsame k (by have:=List.mem_range.1 hk;omega)]
  intro n
  induction n with
  | zero=>intro h;omega
  | succ n ih =>
    intro h
    have e:∀ l:Array Bool,unl (n+1) l=unl n l+(if l.getD n true=false then 1 else 0):=fun l=>by
     unfold unl
     rw [List.range_succ,List.filter_append,List.length_append]
     congr 1
     cases hb:l.getD n true
     ·simp only [List.filter_cons,List.filter_nil,hb,Bool.not_false,if_true,List.length_cons,List.length_nil]
     ·simp only [List.filter_cons,List.filter_nil,hb,Bool.not_true,Bool.false_eq_true,if_false,List.length_nil,Bool.true_eq_false]
    rw [e,e]
    by_cases hn:n=i
    ·subst hn
     rw [hlow n (Nat.le_refl _),hself,hi];simp
    ·rw [hsame n hn,←ih (by omega)];omega
 exact key n hin
theorem z29 {n:Nat} {listed:Array Bool} {i:Nat} (hi:listed.getD i true=false) (hin:i<n):0<unl n listed:=by
 rw [←vp hi hin];omega
theorem yk {listed:Array Bool} {i:Nat} (h:i ∈ Region.ready .any ops listed):i<ops.size:=by
 obtain ⟨_,o,ho,_⟩:=mem_ready.1 h
 exact (Array.getElem?_eq_some_iff.1 ho).1
theorem z15 {D:List (List Nat)} (hD:okDep ops D=true) {B:List BOp} {K:FE→Store→Prop} {i:Nat} {bi:BOp} (hi:B[i]? = some bi) :
 ∀ (n:Nat) (listed:Array Bool) (f:FE) (σ:Store),Down ops listed→unl ops.size listed=n+1 →
   (∀ j bj,B[j]? = some bj→j≠i→listed.getD j true=false→dep D j i=false→apartB bi bj=true∧mayFirst bi bj=true) →
   i ∈ Region.ready .any ops listed→(bi.tt f).run P σ (fun a s=>aAny P ops B K n (listed.setIfInBounds i true) (f.put bi.dst a) s)→aAny P ops B K (n+1) listed f σ:=by
 intro n
 induction n with
 | zero =>
   intro listed f σ hdn hun hfree hr H
   refine ⟨fun h=>(by rw [h] at hr;cases hr),fun j hj bj hbj => ?_⟩
   by_cases hji:j=i
   ·subst hji;rw [hi] at hbj;cases hbj;exact H
   ·have h1:=vp (mem_ready.1 hr).1 (yk hr)
    have h2:=z29 (n:=ops.size) (mem_ready.1 (ready_mono hj hji)).1 (yk hj)
    omega
 | succ n ih =>
   intro listed f σ hdn hun hfree hr H
   refine ⟨fun h=>(by rw [h] at hr;cases hr),fun j hj bj hbj => ?_⟩
   by_cases hji:j=i
   ·subst hji;rw [hi] at hbj;cases hbj;exact H
   ·have hdep:dep D j i=false:=by
     cases hdj:dep D j i with
     | false=>rfl
     | true =>
       obtain ⟨_,o,ho,hall⟩:=mem_ready.1 hj
       have h1:=z1x hD hdn i j o ho hdj hall
       have h0:=(mem_ready.1 hr).1
       rw [Array.getD_eq_getD_getElem?] at h0 h1
       cases hx:listed[i]? with
       | none=>rw [hx] at h1;cases h1
       | some b=>rw [hx] at h0 h1;rw [Option.getD_some] at h0 h1;rw [h0] at h1;cases h1
    obtain ⟨hap,hmf⟩:=hfree j bj hbj hji (mem_ready.1 hj).1 hdep
    obtain ⟨a1,a2,a3⟩:=z4a hap
    have hjr:=ready_mono hj hji
    have hH:(bi.tt f).run P σ fun a s=>(bj.tt f).run P s fun b s'=>aAny P ops B K n ((listed.setIfInBounds i true).setIfInBounds j true) ((f.put bi.dst a).put bj.dst b) s' :=
     TT.run_mono (fun a s h=>by
      have:=h.2 j hjr bj hbj
      rw [z88 a1] at this
      exact this) H
    have hc:=zbp hmf hH
    refine TT.run_mono (fun b s h => ?_) hc
    have hdn':=hdn.set hj
    have hun':unl ops.size (listed.setIfInBounds j true)=n+1:=by
     have:=vp (mem_ready.1 hj).1 (yk hj);omega
    refine ih (listed.setIfInBounds j true) (f.put bj.dst b) s hdn' hun' (fun k bk hbk hki hku hkd=>hfree k bk hbk hki ?_ hkd) (ready_mono hr (Ne.symm hji)) ?_
    ·by_cases hjk:j=k
     ·subst hjk;exact (mem_ready.1 hj).1
     ·rw [getD_set_ne true hjk] at hku;exact hku
    ·rw [z88 a3]
     rw [Array.setIfInBounds_comm _ _ hji]
     refine TT.run_mono (fun a s' h' => ?_) h
     rw [z9p a2] at h'
     exact h'
def okOrd (ops:Array Oper) (D:List (List Nat)) (B:List BOp):List Nat→List Nat→Bool
 | [],done=>(List.range ops.size).all done.contains
 | i::r,done =>
   (match ops[i]?,B[i]? with
    | some o,some bi => !done.contains i && o.after.toList.all (fun e => !Region.binds .any e || (done.contains e.on && decide (e.on<ops.size))) &&
       (List.range ops.size).all fun j=>done.contains j || j ==i || dep D j i || (match B[j]? with | some bj=>apartB bi bj && mayFirst bi bj | none=>true)
    | _,_=>false) && okOrd ops D B r (i::done)
def Says (n:Nat) (listed:Array Bool) (done:List Nat):Prop:=listed.size=n∧∀ k,k<n→listed[k]? = some (done.contains k)
theorem z32 {D:List (List Nat)} (hD:okDep ops D=true) {B:List BOp} {K:FE→Store→Prop}:∀ (r done:List Nat) (listed:Array Bool) (f:FE) (σ:Store),Says ops.size listed done→Down ops listed→unl ops.size listed=r.length →
 okOrd ops D B r done=true→fops P (r.filterMap fun i=>B[i]?) f σ K→aAny P ops B K r.length listed f σ
 | [],done,listed,f,σ,hsay,hdn,hun,hok,h=>by
   simp only [okOrd,List.all_eq_true,List.mem_range] at hok
   refine ⟨?_,h⟩
   cases hr:Region.ready .any ops listed with
   | nil=>rfl
   | cons j l =>
     have hj:j ∈ Region.ready .any ops listed:=by rw [hr];simp
     have h1:=(mem_ready.1 hj).1
     have h2:=hsay.2 j (yk hj)
     rw [Array.getD_eq_getD_getElem?,h2,hok j (yk hj)] at h1
     cases h1
 | i::r,done,listed,f,σ,hsay,hdn,hun,hok,h=>by
   simp only [okOrd,Bool.and_eq_true] at hok
   obtain ⟨hok1,hok2⟩:=hok
   split at hok1
   ·rename_i o bi ho hbi
    simp only [Bool.and_eq_true,List.all_eq_true,Bool.or_eq_true,Bool.not_eq_true',List.mem_range,decide_eq_true_eq] at hok1
    obtain ⟨⟨hnd,hbef⟩,hpairs⟩:=hok1
    have hlt:i<ops.size:=(Array.getElem?_eq_some_iff.1 ho).1
    have hr:i ∈ Region.ready .any ops listed:=by
     rw [mem_ready]
     refine ⟨by rw [Array.getD_eq_getD_getElem?,hsay.2 i hlt,hnd];rfl,o,ho,fun e he hb => ?_⟩
     rcases hbef e (by simpa using he) with h1 | h1
     ·rw [hb] at h1;cases h1
     ·rw [Array.getD_eq_getD_getElem?]
      rw [hsay.2 _ h1.2,h1.1];rfl
    simp only [List.filterMap_cons,hbi,fops] at h
    refine z15 hD hbi r.length listed f σ hdn (by simpa using hun) (fun j bj hbj hji hju hjd => ?_) hr ?_
    ·have hjl:j<ops.size∨¬ j<ops.size:=Nat.lt_or_ge j ops.size |>.imp id (fun h=>by omega)
     rcases hjl with hjl | hjl
     ·have h1:=hsay.2 j hjl
      rw [Array.getD_eq_getD_getElem?,h1] at hju
      rcases hpairs j hjl with ((h2 | h2) | h2) | h2
      ·rw [h2] at hju;cases hju
      ·exact absurd (by simpa using h2) hji
      ·rw [hjd] at h2;cases h2
      ·rw [hbj] at h2;simpa using h2
     ·rw [Array.getD_eq_getD_getElem?,Array.getElem?_eq_none (by rw [hsay.1];omega)] at hju;cases hju
    ·refine TT.run_mono (fun a s h'=>z32 hD r (i::done) _ _ s ?_ (hdn.set hr) ?_ hok2 h') h
     ·refine ⟨by simpa using hsay.1,fun k hk => ?_⟩
      by_cases hki:i=k
      ·subst hki;simp [hsay.1,hk]
      ·rw [Array.getElem?_setIfInBounds_ne hki,hsay.2 k hk]
       have:k≠i:=fun e=>hki e.symm
       simp [this]
     ·have:=vp (mem_ready.1 hr).1 hlt
      simp at hun;omega
   ·cases hok1
inductive IT where
 | leaf
 | op (i:Nat) (t:IT)
 | alt (i:Nat) (t:IT) (r:IT)
 | stop
def IT.roots:IT→List Nat
 | .alt i _ r=>i::r.roots
 | _=>[]
def ttree (P:Program) (B:List BOp) (K:FE→Store→Prop):IT→FE→Store→Prop
 | .leaf,f,σ=>K f σ
 | .op i t,f,σ=>∃ b,B[i]? = some b∧(b.tt f).run P σ fun a s=>ttree P B K t (f.put b.dst a) s
 | .alt i t r,f,σ=>(∃ b,B[i]? = some b∧(b.tt f).run P σ fun a s=>ttree P B K t (f.put b.dst a) s)∧ttree P B K r f σ
 | .stop,_,_=>True
def rdy (ops:Array Oper) (done:List Nat) (i:Nat):Bool :=
 !done.contains i && match ops[i]? with
   | some o=>o.after.toList.all fun e => !Region.binds .any e || (done.contains e.on && decide (e.on<ops.size))
   | none=>false
def okFirst (ops:Array Oper) (D:List (List Nat)) (B:List BOp) (done:List Nat) (i:Nat):Bool :=
 rdy ops done i && match B[i]? with
  | some bi=>(List.range ops.size).all fun j=>done.contains j || j ==i || dep D j i || (match B[j]? with | some bj=>apartB bi bj && mayFirst bi bj | none=>true)
  | none=>false
def okT (ops:Array Oper) (D:List (List Nat)) (B:List BOp):Bool→IT→List Nat→Bool
 | true,.leaf,done=>(List.range ops.size).all done.contains
 | true,.op i t,done=>okFirst ops D B done i && okT ops D B true t (i::done)
 | top,.alt i t r,done=>rdy ops done i && (!top || (List.range ops.size).all fun j => !rdy ops done j || (i::r.roots).contains j) && okT ops D B true t (i::done) && okT ops D B false r done
 | false,.stop,_=>true
 | _,_,_=>false
theorem Says.ready {listed:Array Bool} {done:List Nat} (hsay:Says ops.size listed done) {i:Nat} (h:rdy ops done i=true):i ∈ Region.ready .any ops listed:=by
 unfold rdy at h
 simp only [Bool.and_eq_true,Bool.not_eq_true'] at h
 obtain ⟨hnd,h⟩:=h
 split at h
 ·rename_i o ho
  have hlt:i<ops.size:=(Array.getElem?_eq_some_iff.1 ho).1
  rw [mem_ready]
  refine ⟨by rw [Array.getD_eq_getD_getElem?,hsay.2 i hlt,hnd];rfl,o,ho,fun e he hb => ?_⟩
  have h1:=List.all_eq_true.1 h e (by simpa using he)
  simp only [Bool.or_eq_true,Bool.not_eq_true',Bool.and_eq_true,decide_eq_true_eq] at h1
  rcases h1 with h1 | h1
  ·rw [hb] at h1;cases h1
  ·rw [Array.getD_eq_getD_getElem?]
   rw [hsay.2 _ h1.2,h1.1];rfl
 ·cases h
theorem Says.rdy {listed:Array Bool} {done:List Nat} (hsay:Says ops.size listed done) {i:Nat} (h:i ∈ Region.ready .any ops listed):rdy ops done i=true:=by
 obtain ⟨h1,o,ho,hall⟩:=mem_ready.1 h
 have hlt:i<ops.size:=(Array.getElem?_eq_some_iff.1 ho).1
 rw [Array.getD_eq_getD_getElem?,hsay.2 i hlt] at h1
 have hsz:∀ k,listed.getD k false=true→k<ops.size∧done.contains k=true:=fun k hk=>by
  rw [Array.getD_eq_getD_getElem?] at hk
  by_cases hks:k<ops.size
  ·rw [hsay.2 k hks] at hk;exact ⟨hks,hk⟩
  ·rw [Array.getElem?_eq_none (by rw [hsay.1];omega)] at hk;cases hk
 simp only [Go.Am.rdy,Bool.and_eq_true,Bool.not_eq_true',ho]
 refine ⟨h1,List.all_eq_true.2 fun e he => ?_⟩
 simp only [Bool.or_eq_true,Bool.not_eq_true',Bool.and_eq_true,decide_eq_true_eq]
 cases hb:Region.binds .any e with
 | false=>exact .inl rfl
 | true=>have:=hsz _ (hall e (by simpa using he) hb);exact .inr ⟨this.2,this.1⟩
theorem Says.set {listed:Array Bool} {done:List Nat} (hsay:Says ops.size listed done) (i:Nat):Says ops.size (listed.setIfInBounds i true) (i::done):=by
 refine ⟨by simpa using hsay.1,fun k hk => ?_⟩
 by_cases hki:i=k
 ·subst hki;simp [hsay.1,hk]
 ·rw [Array.getElem?_setIfInBounds_ne hki,hsay.2 k hk]
  have:k≠i:=fun e=>hki e.symm
  simp [this]
theorem z6t {D:List (List Nat)} (hD:okDep ops D=true) {B:List BOp} {K:FE→Store→Prop}:∀ (t:IT) (done:List Nat) (listed:Array Bool) (f:FE) (σ:Store) (n:Nat),Says ops.size listed done→Down ops listed→unl ops.size listed=n →
 (∀ top,okT ops D B top t done=true→ttree P B K t f σ →
   if top then aAny P ops B K n listed f σ
   else ∀ j ∈ t.roots,∀ m,n=m+1→j ∈ Region.ready .any ops listed→∀ b,B[j]? = some b→(b.tt f).run P σ fun a s=>aAny P ops B K m (listed.setIfInBounds j true) (f.put b.dst a) s):=by
 intro t
 induction t with
 | leaf =>
   intro done listed f σ n hsay hdn hun top hok h
   cases top with
   | false=>simp [okT] at hok
   | true =>
     simp only [okT,List.all_eq_true,List.mem_range] at hok
     have h0:Region.ready .any ops listed=[]:=by
      cases hr:Region.ready .any ops listed with
      | nil=>rfl
      | cons j l =>
        have hj:j ∈ Region.ready .any ops listed:=by rw [hr];simp
        have h1:=(mem_ready.1 hj).1
        have h2:=hsay.2 j (yk hj)
        rw [Array.getD_eq_getD_getElem?,h2,hok j (yk hj)] at h1
        cases h1
     simp only [if_true]
     cases n with
     | zero=>exact ⟨h0,h⟩
     | succ m=>exact ⟨fun _=>h,fun i hi=>(by rw [h0] at hi;cases hi)⟩
 | stop =>
   intro done listed f σ n hsay hdn hun top hok h
   cases top with
   | true=>simp [okT] at hok
   | false=>simp [IT.roots]
 | op i t ih =>
   intro done listed f σ n hsay hdn hun top hok h
   cases top with
   | false=>simp [okT] at hok
   | true =>
     simp only [okT,Bool.and_eq_true,okFirst] at hok
     obtain ⟨⟨hrd,hok1⟩,hok2⟩:=hok
     obtain ⟨bi,hbi,h⟩:=h
     simp only [hbi] at hok1
     simp only [if_true]
     have hr:=hsay.ready hrd
     have hlt:=yk hr
     obtain ⟨m,rfl⟩:∃ m,n=m+1:=⟨n - 1,by have:=z29 (mem_ready.1 hr).1 hlt;omega⟩
     refine z15 hD hbi m listed f σ hdn hun (fun j bj hbj hji hju hjd => ?_) hr ?_
     ·rcases Nat.lt_or_ge j ops.size with hjl | hjl
      ·have h1:=hsay.2 j hjl
       rw [Array.getD_eq_getD_getElem?,h1] at hju
       have hp:=List.all_eq_true.1 hok1 j (List.mem_range.2 hjl)
       simp only [Bool.or_eq_true] at hp
       rcases hp with ((h2 | h2) | h2) | h2
       ·rw [Option.getD_some] at hju;rw [h2] at hju;cases hju
       ·exact absurd (by simpa using h2) hji
       ·rw [hjd] at h2;cases h2
       ·rw [hbj] at h2;simpa using h2
      ·rw [Array.getD_eq_getD_getElem?,Array.getElem?_eq_none (by rw [hsay.1];omega)] at hju;cases hju
     ·refine TT.run_mono (fun a s h' => ?_) h
      have hu:unl ops.size (listed.setIfInBounds i true)=m:=by have:=vp (mem_ready.1 hr).1 hlt;omega
      simpa using ih (i::done) _ (f.put bi.dst a) s m (hsay.set i) (hdn.set hr) hu true hok2 h'
 | alt i t r iht ihr =>
   intro done listed f σ n hsay hdn hun top hok h
   simp only [okT,Bool.and_eq_true] at hok
   obtain ⟨⟨⟨hrd,hcov⟩,hok1⟩,hok2⟩:=hok
   obtain ⟨⟨bi,hbi,hi⟩,hrest⟩:=h
   have key:∀ j ∈ (IT.alt i t r).roots,∀ m,n=m+1→j ∈ Region.ready .any ops listed→∀ b,B[j]? = some b→(b.tt f).run P σ fun a s=>aAny P ops B K m (listed.setIfInBounds j true) (f.put b.dst a) s:=by
    intro j hj m hm hjr b hb
    have hrest':=ihr done listed f σ n hsay hdn hun false hok2 hrest
    simp only [Bool.false_eq_true,if_false] at hrest'
    simp only [IT.roots,List.mem_cons] at hj
    by_cases hji:j=i
    ·subst hji
     rw [hbi] at hb;cases hb
     refine TT.run_mono (fun a s h' => ?_) hi
     have hu:unl ops.size (listed.setIfInBounds j true)=m:=by have:=vp (mem_ready.1 hjr).1 (yk hjr);omega
     simpa using iht (j::done) _ (f.put bi.dst a) s m (hsay.set j) (hdn.set hjr) hu true hok1 h'
    ·exact hrest' j (hj.resolve_left hji) m hm hjr b hb
   cases top with
   | false=>simpa using key
   | true =>
     simp only [if_true]
     have hr:=hsay.ready hrd
     obtain ⟨m,rfl⟩:∃ m,n=m+1:=⟨n - 1,by have:=z29 (mem_ready.1 hr).1 (yk hr);omega⟩
     refine ⟨fun h0=>(by rw [h0] at hr;cases hr),fun j hj b hb => ?_⟩
     refine key j ?_ m rfl hj b hb
     have:=List.all_eq_true.1 (by simpa using hcov:((List.range ops.size).all fun j => !Go.Am.rdy ops done j || (i::r.roots).contains j)=true) j (List.mem_range.2 (yk hj))
     rw [hsay.rdy hj] at this
     simpa [IT.roots] using this
theorem St.drew {f:FE} {σ:Store} {a:Act} {w:World} (h:St R N f σ a w):St R N f σ a w.drew:=by
 obtain ⟨G,h1,h2,h3,h4,h5⟩:=h
 exact ⟨G,h1.trans (Ext.drew G σ w),h2.heap rfl,h3,h4,fun t v ht=>by obtain ⟨x,hx,hr⟩:=h5 t v ht;exact ⟨x,hx,VRel.heap (w':=w.drew) (w:=w) rfl hr⟩⟩
theorem z5s {dr:Bool} {id:Nat} {D:List (List Nat)} {B:List BOp} {ord:List Nat} {K:FE→Store→Prop} {f:FE} {σ:Store} {a:Act} {w:World} (hm:P.follows .mixedOrders=true)
 (hB:ops.toList.mapM (compOp P dr N ops)=some B) (hD:okDep ops D=true) (hord:okOrd ops D B ord []=true) (hlen:ord.length=ops.size) (hst:St R N f σ a w)
 (h:fops P (ord.filterMap fun i=>B[i]?) f σ K) (hq:∀ f' σ' a' w',St R N f' σ' a' w'→K f' σ'→Q .normal a' w'):(Code.region id ops true).wp P Q a w:=by
 refine wp_region_any hm ?_
 have hrep:∀ k,k<ops.size→(Array.replicate ops.size false)[k]? = some false:=fun k hk=>by simp [hk]
 have hA:=z32 hD (K:=K) (P:=P) ord [] (Array.replicate ops.size false) f σ ⟨by simp,fun k hk=>by rw [hrep k hk];rfl⟩
  (fun j o ho hl=>by
    have:=(Array.getElem?_eq_some_iff.1 ho).1
    rw [Array.getD_eq_getD_getElem?,hrep j this] at hl;cases hl)
  (by
    unfold unl
    rw [hlen,List.filter_eq_self.2 (fun k hk=>by rw [Array.getD_eq_getD_getElem?,hrep k (List.mem_range.1 hk)];rfl),List.length_range]) hord h
 rw [hlen] at hA
 exact uu hB hq _ _ f σ a _ hst.drew hA
theorem z6i {dr:Bool} {id:Nat} {D:List (List Nat)} {B:List BOp} {t:IT} {K:FE→Store→Prop} {f:FE} {σ:Store} {a:Act} {w:World} (hm:P.follows .mixedOrders=true)
 (hB:ops.toList.mapM (compOp P dr N ops)=some B) (hD:okDep ops D=true) (hord:okT ops D B true t []=true) (hst:St R N f σ a w)
 (h:ttree P B K t f σ) (hq:∀ f' σ' a' w',St R N f' σ' a' w'→K f' σ'→Q .normal a' w'):(Code.region id ops true).wp P Q a w:=by
 refine wp_region_any hm ?_
 have hrep:∀ k,k<ops.size→(Array.replicate ops.size false)[k]? = some false:=fun k hk=>by simp [hk]
 have hA:=z6t hD (K:=K) (P:=P) t [] (Array.replicate ops.size false) f σ ops.size ⟨by simp,fun k hk=>by rw [hrep k hk];rfl⟩
  (fun j o ho hl=>by
    have:=(Array.getElem?_eq_some_iff.1 ho).1
    rw [Array.getD_eq_getD_getElem?,hrep j this] at hl;cases hl)
  (by
    unfold unl
    rw [List.filter_eq_self.2 (fun k hk=>by rw [Array.getD_eq_getD_getElem?,hrep k (List.mem_range.1 hk)];rfl),List.length_range]) true hord h
 simp only [if_true] at hA
 exact uu hB hq _ _ f σ a _ hst.drew hA
end
end Go.Am
namespace Go.Am
inductive BC where
 | skip
 | ret
 | exit (id:Nat)
 | seq (a b:BC)
 | cond (c:Opd) (a b:BC)
 | block (id:Nat) (b:BC)
 | ops (l:List BOp) (live:List Nat)
 | loop (live:List Nat) (b:BC)
 | both (a b:BC)
 | top
 | wk (id:Nat) (b:BC)
inductive DS (B:List BOp):IT→BC→Prop
 | leaf {live}:DS B .leaf (.ops [] live)
 | op {i t b c live}:B[i]? = some b→DS B t c→DS B (.op i t) (.seq (.ops [b] live) c)
 | alt {i t r b c d live}:B[i]? = some b→DS B t c→DS B r d→DS B (.alt i t r) (.both (.seq (.ops [b] live) c) d)
 | stop:DS B .stop .top
inductive CC (P:Program) (N:Nat):Code→BC→Prop
 | skip:CC P N .skip .skip
 | label {l}:CC P N (.label l) .skip
 | ret:CC P N .ret .ret
 | exit {id}:CC P N (.exit id) (.exit id)
 | seq {a b a' b'}:CC P N a a'→CC P N b b'→CC P N (.seq a b) (.seq a' b')
 | cond {c a b c' a' b'}:compOpd c=some c'→CC P N a a'→CC P N b b'→CC P N (.cond c a b) (.cond c' a' b')
 | block {id b b'}:CC P N b b'→CC P N (.block id b) (.block id b')
 | ops {id ops l live}:ops.toList.mapM (compOp P false N ops)=some l→CC P N (.region id ops false) (.ops l live)
 | draw {id ops dr D B ord live}:P.follows .mixedOrders=true→ops.toList.mapM (compOp P dr N ops)=some B→okDep ops D=true→okOrd ops D B ord []=true→ord.length=ops.size →
    CC P N (.region id ops true) (.ops (ord.filterMap fun i=>B[i]?) live)
 | tree {id ops dr D B t c}:P.follows .mixedOrders=true→ops.toList.mapM (compOp P dr N ops)=some B→okDep ops D=true→okT ops D B true t []=true→DS B t c→CC P N (.region id ops true) c
 | scope {b b'}:CC P N b b'→CC P N (.scope b) b'
 | loop {b b' live}:CC P N b b'→CC P N (.loop b) (.loop live b')
 | wk {c b id}:CC P N c b→CC P N c (.wk id b)
def subF (f f':FE):Prop:=∀ t a,f t=some a→f' t=some a
def WeakF (f:FE) (σ:Store) (Q:FE→Store→Prop):Prop :=
 ∀ G w (vs:Nat→Option Value),Sim G σ w→(∀ t v,f t=some v→∃ x,vs t=some x∧VRel G w v x)→∃ G' f' σ',Ext G σ w G' σ' w∧Sim G' σ' w∧(∀ t v,f' t=some v→∃ x,vs t=some x∧VRel G' w v x)∧Q f' σ'
def fwp (P:Program):BC→FE→Store→(FE→Store→Prop)→(FE→Store→Prop)→(Nat→FE→Store→Prop)→Prop
 | .skip,f,σ,n,_,_=>n f σ
 | .ret,f,σ,_,r,_=>r f σ
 | .exit i,f,σ,_,_,x=>x i f σ
 | .seq a b,f,σ,n,r,x=>fwp P a f σ (fun f σ=>fwp P b f σ n r x) r x
 | .cond c a b,f,σ,n,r,x=>∃ v,fev f c=some (.bool v)∧(v=true→fwp P a f σ n r x)∧(v=false→fwp P b f σ n r x)
 | .block id b,f,σ,n,r,x=>fwp P b f σ n r (fun i f σ=>if i=id then n f σ else x i f σ)
 | .ops l _,f,σ,n,_,_=>fops P l f σ n
 | .loop _ b,f,σ,_,r,x=>∃ I:Nat→FE→Store→Prop,(∃ k f' σ',subF f' f∧Store.sub σ' σ∧I k f' σ')∧∀ k f σ,I k f σ →
     fwp P b f σ (fun f' σ'=>∃ j f'' σ'',j<k∧subF f'' f'∧Store.sub σ'' σ'∧I j f'' σ'') r x
 | .both a b,f,σ,n,r,x=>fwp P a f σ n r x∧fwp P b f σ n r x
 | .top,_,_,_,_,_=>True
 | .wk _ b,f,σ,n,r,x=>WeakF f σ (fun f σ=>fwp P b f σ n r x)
theorem DS.tree {P:Program} {B:List BOp} {t:IT} {c:BC} (h:DS B t c):∀ (f:FE) (σ:Store) (n r:FE→Store→Prop) (x:Nat→FE→Store→Prop),fwp P c f σ n r x→ttree P B n t f σ:=by
 induction h with
 | leaf=>exact fun f σ n r x h=>h
 | op hb _ ih=>exact fun f σ n r x h=>⟨_,hb,TT.run_mono (fun a s h'=>ih _ s n r x h') h⟩
 | alt hb _ _ ih1 ih2=>exact fun f σ n r x h=>⟨⟨_,hb,TT.run_mono (fun a s h'=>ih1 _ s n r x h') h.1⟩,ih2 f σ n r x h.2⟩
 | stop=>exact fun _ _ _ _ _ _=>trivial
section
variable {P:Program} {R:Ref} {N:Nat}
theorem St.sub {f f':FE} {σ σ':Store} {a:Act} {w:World} (h:St R N f σ a w) (hf:subF f' f) (hs:Store.sub σ' σ):St R N f' σ' a w:=by
 obtain ⟨G,h1,h2,h3,h4,h5⟩:=h
 exact ⟨G,h1.sub hs,h2.sub hs,h3,h4,fun t v ht=>h5 t v (hf t v ht)⟩
def QOf (R:Ref) (N:Nat) (n r:FE→Store→Prop) (x:Nat→FE→Store→Prop):Exit→Act→World→Prop
 | .normal,a,w=>∃ f σ,St R N f σ a w∧n f σ
 | .ret,a,w=>∃ f σ,St R N f σ a w∧r f σ
 | .exit i,a,w=>∃ f σ,St R N f σ a w∧x i f σ
 | _,_,_=>False
theorem z8q {Q:Exit→Act→World→Prop} {c:Code} (J:Nat→Act→World→Prop) {k:Nat} {a:Act} {w:World} (h0:J k a w)
 (round:∀ k a w,J k a w→c.wp P (Exit.then (fun a' w'=>∃ j,j<k∧J j a' w') Q) a w):(Code.loop c).wp P Q a w:=by
 intro b kk cs
 have key:∀ k a w,J k a w→∃ e a' w',Q e a' w'∧Arrives P (lone (b.at a (.code c :: .inLoop c::kk)) cs w) b kk cs e a' w':=by
  intro k
  induction k using Nat.strongRecOn with
  | _ k ih =>
    intro a w hJ
    obtain ⟨e,a₁,w₁,hq,harr⟩:=round k a w hJ b (.inLoop c::kk) cs
    cases e with
    | normal =>
      obtain ⟨j,hlt,hJ₁⟩:=hq
      obtain ⟨e₂,a₂,w₂,hq₂,harr₂⟩:=ih j hlt a₁ w₁ hJ₁
      exact ⟨e₂,a₂,w₂,hq₂,.of_steps (Steps.trans harr (.one step_inLoop)) harr₂⟩
    | exit id=>exact ⟨_,a₁,w₁,hq,.pass (x := .inLoop c) rfl (fun _ _ => .inl (by simp)) harr⟩
    | goto l=>exact ⟨_,a₁,w₁,hq,.pass (x := .inLoop c) rfl (fun _ _ => .inl (by simp)) harr⟩
    | ret=>exact ⟨_,a₁,w₁,hq,.pass (x := .inLoop c) rfl (fun _ _ => .inl (by simp)) harr⟩
    | panic ch=>exact ⟨_,a₁,w₁,hq,.pass (x := .inLoop c) rfl (fun _ _ => .inl (by simp)) harr⟩
    | outgrown=>exact ⟨_,a₁,w₁,hq,.pass (x := .inLoop c) rfl (fun _ _ => .inl (by simp)) harr⟩
 obtain ⟨e,a',w',hq,harr⟩:=key k a w h0
 exact ⟨e,a',w',hq,.of_steps (.one step_loop) harr⟩
theorem z5q {c:Code} {b:BC} (hc:CC P N c b):∀ (f:FE) (σ:Store) (a:Act) (w:World) (n r:FE→Store→Prop) (x:Nat→FE→Store→Prop),
 St R N f σ a w→fwp P b f σ n r x→c.wp P (QOf R N n r x) a w:=by
 induction hc with
 | skip=>exact fun f σ a w n r x hst h=>wp_skip ⟨f,σ,hst,h⟩
 | label=>exact fun f σ a w n r x hst h=>wp_label ⟨f,σ,hst,h⟩
 | ret=>exact fun f σ a w n r x hst h=>wp_ret ⟨f,σ,hst,h⟩
 | exit=>exact fun f σ a w n r x hst h=>wp_exit ⟨f,σ,hst,h⟩
 | seq _ _ ih1 ih2 =>
   intro f σ a w n r x hst h
   refine wp_seq (wp_mono (ih1 f σ a w _ r x hst h) ?_)
   intro e a' w' hq
   cases e with
   | normal=>obtain ⟨f',σ',h1,h2⟩:=hq;exact ih2 f' σ' a' w' n r x h1 h2
   | _=>exact hq
 | cond hc _ _ ih1 ih2 =>
   intro f σ a w n r x hst h
   obtain ⟨v,h1,h2,h3⟩:=h
   have hst':=hst
   obtain ⟨G,_,hs,_,_,hE⟩:=hst'
   have hv:=(z6z (a:=a) hE _ _ _ hc h1).of_bool
   refine wp_cond_split hv (fun ht=>ih1 f σ a w n r x hst (h2 ht)) (fun ht=>ih2 f σ a w n r x hst (h3 ht))
 | block _ ih =>
   intro f σ a w n r x hst h
   refine wp_block (wp_mono (ih f σ a w n r _ hst h) ?_)
   intro e a' w' hq
   cases e with
   | exit i =>
     obtain ⟨f',σ',h1,h2⟩:=hq
     simp only [Exit.inBlock]
     split
     ·rename_i he;rw [if_pos he] at h2;exact ⟨f',σ',h1,h2⟩
     ·rename_i he;rw [if_neg he] at h2;exact ⟨f',σ',h1,h2⟩
   | normal=>exact hq
   | ret=>exact hq
   | goto=>exact hq.elim
   | panic=>exact hq.elim
   | outgrown=>exact hq.elim
 | ops hl =>
   intro f σ a w n r x hst h
   exact wp_region_list (z1b _ _ hl f σ a w n hst h fun f' σ' a' w' h1 h2=>⟨f',σ',h1,h2⟩)
 | draw hm hB hD ho hlen =>
   intro f σ a w n r x hst h
   exact z5s hm hB hD ho hlen hst h fun f' σ' a' w' h1 h2=>⟨f',σ',h1,h2⟩
 | tree hm hB hD ho hds =>
   intro f σ a w n r x hst h
   exact z6i hm hB hD ho hst (hds.tree f σ n r x h) fun f' σ' a' w' h1 h2=>⟨f',σ',h1,h2⟩
 | wk _ ih =>
   intro f σ a w n r x hst h
   obtain ⟨G,h1,h2,h3,h4,h5⟩:=hst
   obtain ⟨G',f',σ',g1,g2,g3,g4⟩:=h G w (fun t=>a.tmps[t]?) h2 h5
   exact ih f' σ' a w n r x ⟨G',h1.trans g1,g2,h3,h4,g3⟩ g4
 | scope _ ih =>
   intro f σ a w n r x hst h
   refine wp_scope_straight (wp_mono (ih f σ a w n r x hst h) ?_)
   intro e a' w' hq
   cases e with
   | goto=>exact hq.elim
   | _=>exact hq
 | loop _ ih =>
   intro f σ a w n r x hst h
   obtain ⟨I,⟨k,f0,σ0,hf0,hσ0,h0⟩,hround⟩:=h
   refine z8q (fun k a w=>∃ f σ,St R N f σ a w∧I k f σ) (k:=k) ⟨f0,σ0,hst.sub hf0 hσ0,h0⟩ ?_
   rintro k a w ⟨f,σ,hst,hI⟩
   refine wp_mono (ih f σ a w _ r x hst (hround k f σ hI)) ?_
   intro e a' w' hq
   cases e with
   | normal =>
     obtain ⟨f',σ',h1,j,f'',σ'',h2,h3,h4,h5⟩:=hq
     exact ⟨j,h2,f'',σ'',h1.sub h3 h4,h5⟩
   | _=>exact hq
def WeakL (as:List AV) (σ:Store) (Q:List AV→Store→Prop):Prop :=
 ∀ G w vs,Sim G σ w→Rels (VRel G w) as vs→∃ G' as' σ',Ext G σ w G' σ' w∧Sim G' σ' w∧Rels (VRel G' w) as' vs∧Q as' σ'
def Weak (a:AV) (σ:Store) (Q:AV→Store→Prop):Prop :=
 ∀ G w v,Sim G σ w→VRel G w a v→∃ G' a' σ',Ext G σ w G' σ' w∧Sim G' σ' w∧VRel G' w a' v∧Q a' σ'
theorem WeakL.pure {as:List AV} {σ:Store} {Q:List AV→Store→Prop} (h:Q as σ):WeakL as σ Q :=
 fun G w vs hs hr=>⟨G,as,σ,Ext.refl _ _ _,hs,hr,h⟩
theorem Weak.pure {a:AV} {σ:Store} {Q:AV→Store→Prop} (h:Q a σ):Weak a σ Q :=
 fun G w v hs hr=>⟨G,a,σ,Ext.refl _ _ _,hs,hr,h⟩
theorem Weak.forget {a:AV} {σ σ':Store} {Q:AV→Store→Prop} (hsub:Store.sub σ' σ) (h:Weak a σ' Q):Weak a σ Q:=fun G w v hs hr=>by
 obtain ⟨G',a',σ'',h1,h2,h3,h4⟩:=h G w v (hs.sub hsub) hr
 exact ⟨G',a',σ'',((Ext.refl G σ w).sub hsub).trans h1,h2,h3,h4⟩
theorem WeakL.forget {as:List AV} {σ σ':Store} {Q:List AV→Store→Prop} (hsub:Store.sub σ' σ) (h:WeakL as σ' Q):WeakL as σ Q:=fun G w v hs hr=>by
 obtain ⟨G',a',σ'',h1,h2,h3,h4⟩:=h G w v (hs.sub hsub) hr
 exact ⟨G',a',σ'',((Ext.refl G σ w).sub hsub).trans h1,h2,h3,h4⟩
theorem Weak.of_one {a:AV} {σ:Store} {Q:AV→Store→Prop} (h:WeakL [a] σ (fun as s=>∃ a,as=[a]∧Q a s)):Weak a σ Q:=fun G w v hs hr=>by
 obtain ⟨G',as',σ',h1,h2,h3,a',rfl,h4⟩:=h G w [v] hs (.cons hr .nil)
 cases h3 with | cons h3 _=>exact ⟨G',a',σ',h1,h2,h3,h4⟩
theorem Weak.tup {as:List AV} {σ:Store} {Q:AV→Store→Prop} (h:WeakL as σ (fun as s=>Q (.tup as) s)):Weak (.tup as) σ Q:=fun G w v hs hr=>by
 obtain ⟨cs,rfl,hl,hv⟩:=hr.of_tup
 obtain ⟨G',as',σ',h1,h2,h3,h4⟩:=h G w cs hs (Rels.of_get hl hv)
 exact ⟨G',_,σ',h1,h2,.tup h3.length (fun k hk hk'=>by
  obtain ⟨b,hb,hbr⟩:=h3.get k _ (List.getElem?_eq_getElem hk)
  rw [List.getElem?_eq_getElem hk'] at hb;cases hb;exact hbr),h4⟩
theorem Weak.agg {as:List AV} {σ:Store} {Q:AV→Store→Prop} (h:WeakL as σ (fun as s=>(∀ c ∈ as,c.flat=true)∧Q (.agg as) s)):Weak (.agg as) σ Q:=fun G w v hs hr=>by
 obtain ⟨cs,rfl,hl,hf,hv⟩:=hr.of_agg
 obtain ⟨G',as',σ',h1,h2,h3,hf',h4⟩:=h G w cs hs (Rels.of_get hl hv)
 exact ⟨G',_,σ',h1,h2,.agg h3.length hf' (fun k hk hk'=>by
  obtain ⟨b,hb,hbr⟩:=h3.get k _ (List.getElem?_eq_getElem hk)
  rw [List.getElem?_eq_getElem hk'] at hb;cases hb;exact hbr),h4⟩
theorem Sim.freeze {G:Gh} {σ:Store} {w:World} (hs:Sim G σ w) {id:Nat} {o:Obj} {b base:Nat} (hσ:σ id=some o) (hρ:G.ρ id=some (b,base)) :
 ∃ G',Ext G σ w G' (σ.del id) w∧Sim G' (σ.del id) w∧G'.I b∧G'.ρ=G.ρ:=by
 let G':Gh:=⟨G.ρ,fun c=>G.I c∨c=b⟩
 have hdel:∀ i oi,(σ.del id) i=some oi→σ i=some oi∧i≠id:=fun i oi h=>by
  by_cases hi:i=id
  ·subst hi;simp at h
  ·rw [Store.del_ne _ hi] at h;exact ⟨h,hi⟩
 have hext:Ext G σ w G' (σ.del id) w :=
  { Ext.refl G σ w with
    I:=fun _ h => .inl h
    newI:=fun c h=>h.elim .inl (fun e => .inr (.inl (e ▸ ⟨id,o,base,hσ,hρ⟩)))
    newOwn:=fun c ⟨i,oi,bi,h1,h2⟩ => .inl ⟨i,oi,bi,(hdel i oi h1).1,h2⟩
    newId:=fun i oi h1 => .inl ⟨oi,(hdel i oi h1).1⟩ }
 refine ⟨G',hext,?_,.inr rfl,rfl⟩
 exact
  { lt:=fun c hc=>hc.elim (hs.lt c) (fun e=>e ▸ hs.blk id b base hρ)
    fin:=hs.fin,blk:=hs.blk
    used:=fun i oi h1=>by
     obtain ⟨c,bi,h2,h3⟩:=hs.used i oi (hdel i oi h1).1
     exact ⟨c,bi,h2,h3.grow rfl fun a v hv=>hext.vrel hs hv⟩
    inj:=fun i j oi oj c bi bj h1 h2=>hs.inj i j oi oj c bi bj (hdel i oi h1).1 (hdel j oj h2).1
    apart:=fun i oi c bi h1 h2 hc=>by
     obtain ⟨h3,h4⟩:=hdel i oi h1
     rcases hc with hc | rfl
     ·exact hs.apart i oi c bi h3 h2 hc
     ·exact h4 (hs.inj i id oi o _ _ _ h3 hσ h2 hρ) }
theorem v9 {G:Gh} {σ:Store} {w:World} (hs:Sim G σ w) {id esz off len:Nat} {es:List (List AV)} {v:Value} (hσ:σ id=some (.arr esz es)) (hle:off+len≤es.length)
 (hv:VRel G w (.os id esz off len) v):∃ G',Ext G σ w G' (σ.del id) w∧Sim G' (σ.del id) w∧VRel G' w (.sl esz ((es.drop off).take len)) v:=by
 obtain ⟨b,base,hb,hcase⟩:=hv.of_os
 obtain ⟨G',h1,h2,h3,h4⟩:=hs.freeze hσ hb
 refine ⟨G',h1,h2,?_⟩
 have hlen:((es.drop off).take len).length=len:=by simp;omega
 by_cases h0:len=0
 ·subst h0
  have:(es.drop off).take 0=[]:=by simp
  rw [this]
  rcases hcase with ⟨c,rfl,_,_⟩ | ⟨_,x,rfl⟩ <;> exact .sl0
 ·rcases hcase with ⟨c,rfl,hlc,_⟩ | ⟨h,_⟩
  ·obtain ⟨b',base',hb',ho⟩:=hs.used id _ hσ
   rw [hb] at hb';cases hb'
   cases ho with
   | arr hh hsz hl hf hr =>
     rename_i cur ty
     have hne:(es.drop off).take len≠[]:=by intro e;rw [e] at hlen;simp at hlen;omega
     have:=VRel.sl (G:=G') (w:=w) (esz:=esz) (es:=(es.drop off).take len) (b:=b) (off:=base+off*esz) (c:=c) (fun i j=>cur.getD (base+((off+i)*esz+j)) undef) h3 hne (by rw [hlen];exact hlc)
      (fun cs hcs=>hl cs (List.mem_of_mem_drop (List.mem_of_mem_take hcs))) (fun cs hcs=>hf cs (List.mem_of_mem_drop (List.mem_of_mem_take hcs)))
      (fun i j hi hj=>by
        rw [hlen] at hi
        rw [w7 hh]
        have h5:=z3q (show off+i<es.length by omega) hj
        have h6:base+off*esz+(i*esz+j)=base+((off+i)*esz+j):=by rw [Nat.add_mul];omega
        rw [h6,Array.getD_eq_getD_getElem?,Array.getElem?_eq_getElem (by omega)];rfl)
      (fun i j hi hj=>by
        have hi':=hi
        rw [hlen] at hi'
        have e:((es.drop off).take len)[i]'hi=es[off+i]'(by omega):=by simp
        have h5:=hr (off+i) j (by omega) (by rw [←e];exact hj)
        simp only [e]
        exact h1.vrel hs h5)
     rw [hlen] at this
     exact this
  ·exact absurd h h0
theorem WeakL.freeze {as:List AV} {σ:Store} {Q:List AV→Store→Prop} (k:Nat) {id esz off len:Nat} {es:List (List AV)} (ha:as[k]? = some (.os id esz off len)) (hσ:σ id=some (.arr esz es)) (hle:off+len≤es.length)
 (h:WeakL (as.set k (.sl esz ((es.drop off).take len))) (σ.del id) Q):WeakL as σ Q:=fun G w vs hs hr=>by
 obtain ⟨v,hv,hvr⟩:=hr.get k _ ha
 obtain ⟨G',h1,h2,h3⟩:=v9 hs hσ hle hvr
 obtain ⟨G'',as',σ',g1,g2,g3,g4⟩:=h G' w vs h2 (Rels.of_get (by simpa using hr.length) fun i hi hi'=>by
  by_cases hik:i=k
  ·subst hik
   rw [List.getElem?_eq_getElem hi'] at hv;cases hv
   simp;exact h3
  ·rw [List.getElem_set_ne (Ne.symm hik)]
   have hi2:i<as.length:=by simpa using hi
   obtain ⟨u,hu,hur⟩:=hr.get i _ (List.getElem?_eq_getElem hi2)
   rw [List.getElem?_eq_getElem hi'] at hu;cases hu
   exact h1.vrel hs hur)
 exact ⟨G'',as',σ',h1.trans g1,g2,g3,g4⟩
theorem WeakL.nil {as:List AV} {σ:Store} {Q:List AV→Store→Prop} (k:Nat) (esz:Nat) (ha:as[k]? = some .nils) (h:WeakL (as.set k (.sl esz [])) σ Q):WeakL as σ Q:=fun G w vs hs hr=>by
 obtain ⟨v,hv,hvr⟩:=hr.get k _ ha
 have e:=hvr.of_nils
 subst e
 exact h G w vs hs (Rels.of_get (by simpa using hr.length) fun i hi hi'=>by
  by_cases hik:i=k
  ·subst hik
   rw [List.getElem?_eq_getElem hi'] at hv
   rw [Option.some.inj hv]
   simp;exact .sl0
  ·rw [List.getElem_set_ne (Ne.symm hik)]
   have hi2:i<as.length:=by simpa using hi
   obtain ⟨u,hu,hur⟩:=hr.get i _ (List.getElem?_eq_getElem hi2)
   rw [List.getElem?_eq_getElem hi'] at hu;cases hu
   exact hur)
theorem ACalls.weakArgs {f:Nat} {args:List AV} {σ:Store} {Q:AV→Store→Prop} (he:Ent P f) (h:WeakL args σ (fun args' σ'=>ACalls P f args' σ' Q)):ACalls P f args σ Q :=
 ⟨he,fun G w vs hs hv=>by
   obtain ⟨G',args',σ',h1,h2,h3,h4⟩:=h G w vs hs hv
   exact (h4.2 G' w vs h2 h3).mono fun e w' ⟨v,a,G2,σ2,g1,g2,g3,g4,g5⟩=>⟨v,a,G2,σ2,g1,h1.trans g2,g3,g4,g5⟩⟩
theorem ACalls.weakRes {f:Nat} {args:List AV} {σ:Store} {Q Q':AV→Store→Prop} (h:ACalls P f args σ Q) (hw:∀ a s,Q a s→Weak a s Q'):ACalls P f args σ Q' :=
 ⟨h.1,fun G w vs hs hv=>(h.2 G w vs hs hv).mono fun e w' ⟨v,a,G',σ',h1,h2,h3,h4,h5⟩=>by
   obtain ⟨G2,a2,σ2,g1,g2,g3,g4⟩:=hw a σ' h5 G' w' v h3 h4
   exact ⟨v,a2,G2,σ2,h1,h2.trans g1,g2,g3,g4⟩⟩
inductive RS where
 | t (n:Nat)
 | c (n sz:Nat) (agg:Bool)
def RS.slot:RS→Nat
 | .t n | .c n _ _=>n
def compRS (P:Program):ResultVar→Option RS
 | .tmp t=>some (.t t)
 | .cell a t=>match tsz P t,tagg P t with
   | some n,some ag=>some (.c a n ag)
   | _,_=>none
def one:Option (List AV)→Option AV
 | some [c]=>some c
 | _=>none
def rsF (f:FE) (σ:Store):RS→Option AV
 | .t n=>f n
 | .c n sz true=>(f n).bind fun p=>(rd σ sz p).map .agg
 | .c n _ false=>(f n).bind fun p=>one (rd σ 1 p)
def resF (f:FE) (σ:Store):List RS→Option AV
 | [t]=>rsF f σ t
 | ts=>(ts.mapM fun t=>rsF f σ t).map .tup
def rget (tmps:Array Value):ResultVar→Sem Value
 | .tmp t=>pure (tmps.getD t undef)
 | .cell a t=>do loadVar t (←asAddr (tmps.getD a undef))
theorem z66 (fn:Func) (tmps:Array Value):results fn tmps=(do let vs ←fn.results.mapM (rget tmps);pure (if h:vs.size=1 then vs[0] else .tuple vs)):=by
 unfold results
 have:(fun x=>match x with | ResultVar.tmp t=>pure (tmps.getD t undef) | ResultVar.cell a t=>do loadVar t (←asAddr (tmps.getD a undef)):ResultVar→Sem Value)=rget tmps:=by
  funext x;cases x <;> rfl
 rw [←this]
 rfl
theorem zdm {G:Gh} {f:FE} {σ:Store} {tmps:Array Value} {w:World} (hs:Sim G σ w) (hE:∀ t v,f t=some v→∃ x,tmps[t]? = some x∧VRel G w v x)
 {r:ResultVar} {t:RS} (hc:compRS P r=some t) {a:AV} (h:rsF f σ t=some a) :
 ∃ v,(rget tmps r).run P w = .ok v w∧VRel G w a v:=by
 cases r with
 | tmp n =>
   cases hc
   obtain ⟨x,hx,hr⟩:=hE n a h
   exact ⟨x,by simp only [rget,Sem.run_pure,Array.getD_eq_getD_getElem?,hx];rfl,hr⟩
 | cell n ty =>
   simp only [compRS] at hc
   split at hc
   ·rename_i sz ag hn hag
    cases hc
    cases ag
    ·simp only [rsF] at h
     obtain ⟨p,hp,h⟩:=z9 h
     obtain ⟨x,hx,hr⟩:=hE n p hp
     cases hrd:rd σ 1 p with
     | none=>rw [hrd] at h;cases h
     | some cs =>
       rw [hrd] at h
       obtain ⟨b,o,vs,rfl,hl,hvl,hf,hrel,hcell⟩:=z1j hs hr hrd
       match cs,vs,hvl,hrel,h with
       | [c],[v0],_,.cons hr0 _,h =>
         cases h
         refine ⟨v0,?_,hr0⟩
         have h0:=hcell 0 v0 rfl
         simp only [Nat.add_zero] at h0
         have hx':tmps.getD n undef = .pointer (some ⟨b,o,none⟩):=by rw [Array.getD_eq_getD_getElem?,hx];rfl
         simp only [rget,hx'];simp [asAddr,loadVar,z01 hag,h0]
    ·simp only [rsF] at h
     obtain ⟨p,hp,h⟩:=z9 h
     obtain ⟨cs,hrd,rfl⟩:=Option.map_eq_some_iff.1 h
     obtain ⟨x,hx,hr⟩:=hE n p hp
     obtain ⟨b,o,vs,rfl,hl,hvl,hf,hrel,hcell⟩:=z1j hs hr hrd
     have hx':tmps.getD n undef = .pointer (some ⟨b,o,none⟩):=by rw [Array.getD_eq_getD_getElem?,hx];rfl
     refine ⟨.agg vs.toArray,?_,?_⟩
     ·have h0:=run_loadCells_list (P:=P) w ⟨b,o,none⟩ vs (fun j x hx=>by rw [x6];exact hcell j x hx)
      rw [hvl] at h0
      simp only [rget,hx'];simp [asAddr,loadVar,z01 hag,y9 hn,h0]
     ·refine .agg hrel.length hf fun k hk hk' => ?_
      obtain ⟨b',hb',hv'⟩:=hrel.get k _ (List.getElem?_eq_getElem hk)
      rw [List.getElem?_eq_getElem hk'] at hb'
      cases hb';exact hv'
   ·cases hc
theorem z4j {G:Gh} {f:FE} {σ:Store} {tmps:Array Value} {w:World} {fn:Func} {slots:List RS} (hs:Sim G σ w) (hE:∀ t v,f t=some v→∃ x,tmps[t]? = some x∧VRel G w v x)
 (hres:fn.results.toList.mapM (compRS P)=some slots) {a:AV} (h:resF f σ slots=some a):∃ v,(results fn tmps).run P w = .ok v w∧VRel G w a v:=by
 have hm:∀ (g:ResultVar→Sem Value),(∀ r t a,compRS P r=some t→rsF f σ t=some a→∃ v,(g r).run P w = .ok v w∧VRel G w a v)→∀ (rs:List ResultVar) (ts:List RS) (as:List AV),rs.mapM (compRS P)=some ts →
  (ts.mapM fun t=>rsF f σ t)=some as→∃ vs,(rs.mapM g).run P w = .ok vs w∧Rels (VRel G w) as vs:=by
  intro g hg rs
  induction rs with
  | nil=>intro ts as h1 h2;simp at h1;subst h1;simp at h2;subst h2;exact ⟨[],by simp,.nil⟩
  | cons r rs ih =>
    intro ts as h1 h2
    simp only [List.mapM_cons,Option.bind_eq_bind,Option.pure_def] at h1
    obtain ⟨t,ht,h1⟩:=z9 h1
    obtain ⟨ts',hts',h1⟩:=z9 h1
    simp at h1;subst h1
    simp only [List.mapM_cons,Option.bind_eq_bind,Option.pure_def] at h2
    obtain ⟨a,ha,h2⟩:=z9 h2
    obtain ⟨as',has',h2⟩:=z9 h2
    simp at h2;subst h2
    obtain ⟨v,hv,hvr⟩:=hg r t a ht ha
    obtain ⟨vs,hvs,hr⟩:=ih ts' as' hts' has'
    exact ⟨v::vs,by simp only [List.mapM_cons,Sem.run_bind,hv,Result.andThen_ok,hvs,Sem.run_pure],.cons hvr hr⟩
 rw [z66,Array.mapM_eq_mapM_toList]
 simp only [Sem.run_bind,Sem.run_map]
 have key:∀ as,(slots.mapM fun t=>rsF f σ t)=some as→∃ vs:List Value,(fn.results.toList.mapM (rget tmps)).run P w = .ok vs w∧Rels (VRel G w) as vs :=
  fun as has=>hm _ (fun r t a h1 h2=>zdm hs hE h1 h2) _ _ as hres has
 unfold resF at h
 split at h
 ·rename_i t
  obtain ⟨vs,h1,h2⟩:=key [a] (by simp [List.mapM_cons,h])
  match vs,h2 with
  | [v],.cons hr _=>exact ⟨v,by rw [h1];rfl,hr⟩
 ·rename_i hne
  obtain ⟨as,has,rfl⟩:=Option.map_eq_some_iff.1 h
  obtain ⟨vs,h1,h2⟩:=key as has
  have hl:vs.length=slots.length:=by rw [←h2.length,←(x8 has).1]
  have hne1:vs.length≠1:=by
   intro e
   rw [hl] at e
   match slots,e with
   | [t],_=>exact hne t rfl
  refine ⟨.tuple vs.toArray,?_,.tup h2.length fun k hk hk' => ?_⟩
  ·rw [h1]
   simp [hne1]
  ·obtain ⟨b,hb,hbr⟩:=h2.get k _ (List.getElem?_eq_getElem hk)
   rw [List.getElem?_eq_getElem hk'] at hb;cases hb;exact hbr
theorem z2z {fi:Nat} {fn:Func} {c:Code} {b:BC} {slots:List RS} {args:List AV} {σ:Store} {Q:AV→Store→Prop} (hf:P.funcs[fi]? = some fn) (hname:(fn.name == "runtime.NumGoroutine")=false)
 (hb:fn.body=some c) (hc:CC P fn.ntmps c b) (hres:fn.results.toList.mapM (compRS P)=some slots) (hargs:args.length≤fn.ntmps)
 (h:fwp P b (fun t=>args[t]?) σ (fun f σ'=>∃ a,resF f σ' slots=some a∧Weak a σ' Q) (fun f σ'=>∃ a,resF f σ' slots=some a∧Weak a σ' Q) (fun _ _ _=>False)):ACalls P fi args σ Q:=by
 refine ⟨⟨fn,hf,hname,by rw [hb];rfl⟩,fun G w vs hs hv => ?_⟩
 refine calls_of_wp hf hb (wp_mono (z5q (R:=⟨G,σ,w⟩) hc (fun t=>args[t]?) σ _ w _ _ _ ?_ h) ?_)
 ·refine ⟨G,Ext.refl _ _ _,hs,by have:=hv.length;simp;omega,rfl,fun t v ht => ?_⟩
  obtain ⟨x,hx,hr⟩:=hv.get t v ht
  refine ⟨x,?_,hr⟩
  have hlt:=(List.getElem?_eq_some_iff.1 hx).1
  rw [Array.getElem?_append_left (by simpa using hlt)]
  simpa using hx
 ·have fin:∀ a w',(∃ f σ',St ⟨G,σ,w⟩ fn.ntmps f σ' a w'∧∃ r,resF f σ' slots=some r∧Weak r σ' Q)→a.defers=[]∧∃ v,(results fn a.tmps).run P w' = .ok v w' ∧
   ∃ v' av G' σ',Ending.returned v = .returned v'∧Ext G σ w G' σ' w'∧Sim G' σ' w'∧VRel G' w' av v'∧Q av σ':=by
   rintro a w' ⟨f,σ',⟨G1,h1,h2,h3,h4,h5⟩,r,hr,hw⟩
   obtain ⟨v,hrun,hv⟩:=z4j h2 h5 hres hr
   obtain ⟨G2,a2,σ2,g1,g2,g3,g4⟩:=hw G1 w' _ h2 hv
   exact ⟨h4,v,hrun,_,a2,G2,σ2,rfl,h1.trans g1,g2,g3,g4⟩
  intro e a w' hq
  cases e with
  | normal=>exact fin a w' hq
  | ret=>exact fin a w' hq
  | exit i=>obtain ⟨_,_,_,h⟩:=hq;exact h
  | goto=>exact hq
  | panic=>exact hq.elim
  | outgrown=>exact hq.elim
end
end Go.Am
