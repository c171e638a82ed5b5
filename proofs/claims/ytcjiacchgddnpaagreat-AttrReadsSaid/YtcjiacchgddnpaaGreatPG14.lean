/- A part of the proof: a logic for calls over plain values, and the functions that the law reaches, each walked once. -/
import Derived.Test.YtcjiacchgddnpaaGreatPG13
set_option linter.unusedVariables false
set_option linter.unusedSimpArgs false
set_option linter.unusedSectionVars false
namespace Go.Am.Tsr
open Go.Proofs Go.Am.B
def t42_144:BC:=z [⟨some 144,none,.load (.ld 9 true),[.t 8]⟩,g 145 41 [.t 144],m 146 19,p 147 (.build [(.int .i64 0),(.int .i64 0),.nils] []) [],s 9 4 145,m 5 146,s 3 6 147] [4,5,6] .ret
def t42_19:BC:=z [k 19 .nils] [4,6,8,10,19] (.seq (z [j 20 0] [4,6,8,10,19,20] (.block 2 (.loop [4,6,8,10,19,20] (.seq (z [m 133 20,c 134 .lss 133 256] [4,6,8,10,19,20,134] (.cond (.t 134) .skip (.exit 2))) (.seq (.block 3 (z [m 137 20,p 138 (.idxa 256 1) [.t 10,.t 137],l 139 1 138] [4,6,8,10,19,20,139] (.cond (.t 139) (.ops [m 140 19,m 141 20,⟨some 142,none,.alloc (.mksl 1 1),[.t 141]⟩,⟨some 143,none,.loud (.app 1 8),[.t 140,.t 142]⟩,m 19 143] [4,6,8,10,19,20]) .skip))) (.ops [m 135 20,c 136 .add 135 1,m 20 136] [4,6,8,10,19,20])))))) t42_144)
def t42_116:BC:=z [m 116 13,m 117 15,g 118 88 [.t 8,.t 116,.t 117],m 18 118] [0,1,4,6,7,8,9,10,16,18] (.seq (z [m 119 18,c 120 .eql 119 11] [0,1,4,6,7,8,9,10,16,18,120] (.cond (.t 120) (z [g 121 85 [.c (i 11),.c .nils],e 122 0 121,e 123 1 121,e 124 2 121,s 9 4 122,m 5 123,s 3 6 124] [4,5,6] .ret) .skip)) (z [m 125 18,c 126 .neq 125 0] [0,1,4,6,7,8,9,10,16,18,126] (.cond (.t 126) (z [m 127 18,m 128 16,g 129 85 [.t 127,.t 128],e 130 0 129,e 131 1 129,e 132 2 129,s 9 4 130,m 5 131,s 3 6 132] [4,5,6] .ret) .skip)))
def t42_75:BC:=z [m 75 13,p 76 (.idxa 256 1) [.t 10,.t 75],⟨none,none,.loud (.st 1),[.t 76,.c (.bool true)]⟩] [0,1,4,6,7,8,9,10,12,13,14,15,16] (z [m 77 13,g 78 86 [.t 77],m 17 78] [0,1,4,6,7,8,9,10,12,13,14,15,16,17] (.seq (z [m 79 17,c 80 .eql 79 0] [0,1,4,6,7,8,9,10,12,13,14,15,16,17,80] (.cond (.t 80) (.seq (z [m 81 12,c 82 .and 81 128,c 83 .eql 82 0] [0,1,4,6,7,8,9,10,16,83] (.cond (.t 83) (z [m 84 16,g 85 85 [.c (i 2),.t 84],e 86 0 85,e 87 1 85,e 88 2 85,s 9 4 86,m 5 87,s 3 6 88] [4,5,6] .ret) .skip)) (.exit 1)) .skip)) (.seq (z [m 89 12,c 90 .and 89 192,m 91 17,b 92 .neq 90 91,m 93 92,⟨some 94,some (93,false),.pure (.mov),[.t 12]⟩,⟨some 95,some (93,false),.pure (.bin .and),[.t 94,.c (i 32)]⟩,⟨some 96,some (93,false),.pure (.bin .neq),[.t 95,.c (i 0)]⟩,⟨some 97,some (93,false),.pure (.mov),[.t 96]⟩,⟨some 98,some (97,true),.pure (.mov),[.t 13]⟩,⟨some 99,some (97,true),.pure (.bin .neq),[.t 98,.c (i 8)]⟩,⟨some 100,some (93,false),.pick,[.t 97,.t 99,.c (.bool false)]⟩,⟨some 101,none,.pick,[.t 93,.c (.bool true),.t 100]⟩] [0,1,4,6,7,8,9,10,13,14,15,16,101] (.cond (.t 101) (z [m 102 16,g 103 85 [.c (i 4),.t 102],e 104 0 103,e 105 1 103,e 106 2 103,s 9 4 104,m 5 105,s 3 6 106] [4,5,6] .ret) .skip)) (.seq (z [m 107 13,m 108 14,g 109 87 [.t 107,.t 108],u 110 .not 109] [0,1,4,6,7,8,9,10,13,15,16,110] (.cond (.t 110) (z [m 111 16,g 112 85 [.c (i 5),.t 111],e 113 0 112,e 114 1 112,e 115 2 112,s 9 4 113,m 5 114,s 3 6 115] [4,5,6] .ret) .skip)) t42_116))))
def t42_42:BC:=z [m 42 7,m 43 14,g 44 84 [.t 42,.t 43],m 15 44] [0,1,4,6,7,8,9,10,11,12,13,14,15] (.seq (z [m 45 7,u 46 .nilchk 45,f 47 2 46,l 48 1 47] [0,1,4,6,7,8,9,10,11,12,13,14,15,48] (.cond (.t 48) (z [g 49 85 [.c (i 1),.c .nils],e 50 0 49,e 51 1 49,e 52 2 49,s 9 4 50,m 5 51,s 3 6 52] [4,5,6] .ret) .skip)) (z [m 53 0,m 54 11,m 55 7,u 56 .nilchk 55,f 57 1 56,l 58 1 57,p 59 (.slice 1 true true) [.t 53,.t 54,.t 58],m 16 59] [0,1,4,6,7,8,9,10,12,13,14,15,16] (.seq (z [m 60 13,p 61 (.idxa 256 1) [.t 9,.t 60],l 62 1 61] [0,1,4,6,7,8,9,10,12,13,14,15,16,62] (.cond (.t 62) (z [g 63 85 [.c (i 1),.c .nils],e 64 0 63,e 65 1 63,e 66 2 63,s 9 4 64,m 5 65,s 3 6 66] [4,5,6] .ret) .skip)) (z [m 67 13,p 68 (.idxa 256 1) [.t 9,.t 67],⟨none,none,.loud (.st 1),[.t 68,.c (.bool true)]⟩] [0,1,4,6,7,8,9,10,12,13,14,15,16] (.seq (z [m 69 13,c 70 .eql 69 5,m 71 70,⟨some 72,some (71,true),.pure (.mov),[.t 1]⟩,⟨some 73,some (71,true),.pure (.not),[.t 72]⟩,⟨some 74,none,.pick,[.t 71,.t 73,.c (.bool false)]⟩] [0,1,4,6,7,8,9,10,12,13,14,15,16,74] (.cond (.t 74) (.exit 1) .skip)) t42_75)))))
def b42:BC:=z [⟨some 4,none,.alloc (.alloc [(.int .i64 0),.nils,(.int .u32 0),(.bool false),(.int .u32 0),(.bool false),(.int .u32 0),(.bool false),.nils]),[]⟩,k 5 .nils,⟨some 6,none,.alloc (.alloc [(.int .i64 0),(.int .i64 0),.nils]),[]⟩] [0,1,4,6] (z [m 21 0,p 22 (.build [.nils,(.int .i64 0),(.bool false)] [(0,1)]) [.t 21],⟨some 23,none,.alloc (.box),[.t 22]⟩,m 7 23] [0,1,4,6,7] (z [⟨some 8,none,.alloc (.alloc [(.int .i64 0),.nils,(.int .u32 0),(.bool false),(.int .u32 0),(.bool false),(.int .u32 0),(.bool false),.nils]),[]⟩] [0,1,4,6,7,8] (z [⟨some 9,none,.alloc (.alloc fls),[]⟩] [0,1,4,6,7,8,9] (z [⟨some 10,none,.alloc (.alloc fls),[]⟩] [0,1,4,6,7,8,9,10] (.seq (.block 0 (.loop [0,1,4,6,7,8,9,10] (.seq (z [m 24 7,g 25 81 [.t 24],c 26 .gtr 25 0] [0,1,4,6,7,8,9,10,26] (.cond (.t 26) .skip (.exit 0))) (.block 1 (z [m 27 7,u 28 .nilchk 27,f 29 1 28,l 30 1 29,m 11 30] [0,1,4,6,7,8,9,10,11] (z [m 31 7,g 32 82 [.t 31],m 12 32] [0,1,4,6,7,8,9,10,11,12] (z [m 33 7,g 34 82 [.t 33],m 13 34] [0,1,4,6,7,8,9,10,11,12,13] (z [j 14 0] [0,1,4,6,7,8,9,10,11,12,13] (.seq (z [m 35 12,c 36 .and 35 16,c 37 .neq 36 0] [0,1,4,6,7,8,9,10,11,12,13,37] (.cond (.t 37) (.ops [m 38 7,g 39 83 [.t 38],m 14 39] [0,1,4,6,7,8,9,10,11,12,13,14]) (.ops [m 40 7,g 41 82 [.t 40],m 14 41] [0,1,4,6,7,8,9,10,11,12,13,14]))) t42_42))))))))) t42_19)))))
def F42:Fn Tryz.prog 42:=Fn.mkX false b42 [.c 4 9 true,.t 5,.c 6 3 true] 148 Tryz.f42 _ Tryz.func42 (by decide) rfl Tryz.ntmps42 (by kernel_rfl) (by kernel_rfl)
end Go.Am.Tsr
namespace Go.Am
open Go.Proofs Go.Sort
def RZ (σ:Store) (v:AV) (B:List Int) (τ:Store) (id:Nat) (R:List Int) (lack:Bool) (s:Store):Prop:=∃ (at_:Nat),τ id=none∧Store.sub τ s∧Store.sub σ τ∧s id=some (.box [v,.int .i64 (at_:Int),.bool lack])∧Rd 1 σ (B.map cB) v∧at_≤B.length∧R=B.drop at_∧B.length≤1000000000∧U8s B
section
variable {σ τ s:Store} {v:AV} {B:List Int} {id:Nat} {R:List Int} {lack:Bool}
theorem RZ.base (h:RZ σ v B τ id R lack s):RZ σ v B (s.del id) id R lack s∧Store.sub τ (s.del id):=by
 obtain ⟨at_,h1,h2,h3,h4,h5⟩:=h
 exact ⟨⟨at_,by simp,yd _ _,Store.sub_trans h3 (sub_del h2 h1),h4,h5⟩,sub_del h2 h1⟩
theorem RZ.rf (h:RZ σ v B τ id R lack s):∃ at_,RF τ id v B at_ lack s∧R=B.drop at_∧B.length≤1000000000∧U8s B∧Store.sub σ τ∧Rd 1 σ (B.map cB) v:=by
 obtain ⟨at_,h1,h2,h3,h4,h5,h6,h7,h8,h9⟩:=h
 exact ⟨at_,⟨h1,h2,h4,h5.mono h3,h6⟩,h7,h8,h9,h3,h5⟩
theorem RZ.of {at_:Nat} (h:RF τ id v B at_ lack s) (h1:B.length≤1000000000) (h2:U8s B) (h3:Store.sub σ τ) (h4:Rd 1 σ (B.map cB) v):RZ σ v B τ id (B.drop at_) lack s:=⟨at_,h.1,h.2.1,h3,h.2.2.1,h4,h.2.2.2.2,rfl,h1,h2⟩
theorem z75 (h:RZ σ v B τ id R lack s):ACalls Tryz.prog 82 [.ptr id 0] s (fun r s'=>r = .int .i64 (numM 1 R lack).1∧RZ σ v B τ id (numM 1 R lack).2.1 (numM 1 R lack).2.2 s'):=by
 obtain ⟨at_,hf,rfl,h1,h2,h3,h4⟩:=h.rf
 refine (s82 hf h1 h2).mono fun r s' ⟨a,b⟩=>⟨a,?_⟩
 have:=RZ.of b h1 h2 h3 h4
 rw [←List.drop_drop,←xy] at this
 exact this
theorem zdh (h:RZ σ v B τ id R lack s):ACalls Tryz.prog 83 [.ptr id 0] s (fun r s'=>r = .int .i64 (numM 2 R lack).1∧RZ σ v B τ id (numM 2 R lack).2.1 (numM 2 R lack).2.2 s'):=by
 obtain ⟨at_,hf,rfl,h1,h2,h3,h4⟩:=h.rf
 refine (s83 hf h1 h2).mono fun r s' ⟨a,b⟩=>⟨a,?_⟩
 have:=RZ.of b h1 h2 h3 h4
 rw [←List.drop_drop,←xy] at this
 exact this
theorem zdi (h:RZ σ v B τ id R lack s) (n:Int) (hn:n≤1000000000000):ACalls Tryz.prog 84 [.ptr id 0,.int .i64 n] s (fun r s'=>r = .sl 1 ((rawM n R lack).1.map cB)∧RZ σ v B τ id (rawM n R lack).2.1 (rawM n R lack).2.2 s'):=by
 obtain ⟨at_,hf,rfl,h1,h2,h3,h4⟩:=h.rf
 refine (s84 hf h1 n hn).mono fun r s' ⟨a,b⟩=>⟨a,?_⟩
 have:=RZ.of b h1 h2 h3 h4
 rw [←List.drop_drop,←xy] at this
 exact this
theorem zbo (h:RZ σ v B τ id R lack s):ACalls Tryz.prog 81 [.ptr id 0] s (fun r s'=>s'=s∧r = .int .i64 (if lack then 0 else (R.length:Int))):=by
 obtain ⟨at_,hf,rfl,h1,h2,h3,h4⟩:=h.rf
 exact s81 hf h1
end
def flags (S:List Int):List AV:=(List.range 256).map fun k:Nat => .bool (decide ((k:Int) ∈ S))
theorem zx (S:List Int):(flags S).length=256:=by simp [flags]
theorem u0 (S:List Int) {k:Nat} (hk:k<256):(flags S)[k]'(by rw [zx];exact hk) = .bool (decide ((k:Int) ∈ S)):=by simp [flags]
theorem z10 (S:List Int) {k:Nat} (hk:k<256):List.take 1 (List.drop k (flags S))=[.bool (decide ((k:Int) ∈ S))]:=by
 rw [List.drop_eq_getElem_cons (by rw [zx];exact hk),u0 S hk];rfl
theorem z11 (S:List Int) {k:Nat} (hk:k<256):(flags S).set k (.bool true)=flags ((k:Int)::S):=by
 apply List.ext_getElem
 ·rw [List.length_set,zx,zx]
 ·intro i h1 h2
  rw [zx] at h2
  rw [List.getElem_set,u0 _ h2,u0 _ h2]
  by_cases e:k=i
  ·subst e;simp
  ·rw [if_neg e];congr 1;simp only [List.mem_cons,decide_eq_decide]
   constructor
   ·exact .inr
   ·rintro (h | h)
    ·omega
    ·exact h
theorem u5 {x:AV}:∀ (k:Nat) (cs:List AV),k<cs.length→splice k [x] cs=some (cs.set k x)
 | 0,_::cs,_=>by cases cs <;> rfl
 | k+1,c::cs,h=>by
   simp only [splice,u5 k cs (by simpa using h)];rfl
theorem z2f (S:List Int) {k:Nat} (hk:k<256):splice (0+k*1) [.bool true] (flags S)=some (flags ((k:Int)::S)):=by
 rw [←z11 S hk,show 0+k*1=k by omega]
 exact u5 _ _ (by rw [zx];exact hk)
theorem z16 (S:List Int) {k:Nat} (hk:k<256):splice k [.bool true] (flags S)=some (flags ((k:Int)::S)):=by
 rw [←z11 S hk];exact u5 _ _ (by rw [zx];exact hk)
theorem z12 {S S':List Int} (h:∀ x,x ∈ S↔x ∈ S'):flags S=flags S':=by
 unfold flags
 refine List.map_congr_left fun k _ => ?_
 simp only [h]
theorem AJ.weak {τ:Store} {id:Nat} {a:At} {fr fr':Prop} {s:Store} (h:AJ τ id a fr s) (hf:fr'→fr):AJ τ id a fr' s:=by
 obtain ⟨q1,q2,pv,cv,q3,q4,q5,q6⟩:=h
 exact ⟨q1,q2,pv,cv,q3,q4,q5,fun h=>q6 (hf h)⟩
theorem z5r:fls=flags []:=by
 have:flags []=List.replicate 256 (.bool false):=by
  apply List.ext_getElem
  ·rw [zx,List.length_replicate]
  ·intro i h1 h2;rw [zx] at h1;rw [u0 _ h1,List.getElem_replicate];simp
 rw [this];rfl
theorem z4g {b:List Int} {c:Ch} (hu:U8s b) (h:chunk b=some c):0≤c.kind∧c.kind<256:=by
 unfold chunk at h
 split at h
 ·split at h
  ·split at h
   ·cases h
   ·cases h
    exact hu _ (by simp)
  ·split at h
   ·split at h
    ·cases h
    ·cases h
     exact hu _ (by simp)
   ·cases h
 ·cases h
theorem z76 {c:Ch} {a:At} {n:Nt} (h:valA c a = .error n):(n.1=11→n.2=[])∧(¬ n.1=11→n.2=c.all):=by
 unfold valA at h
 repeat' split at h
 all_goals first
  | (cases h;exact ⟨fun e=>by simp at e,fun _=>rfl⟩)
  | (cases h;exact ⟨fun _=>rfl,fun e=>absurd rfl e⟩)
  | cases h
set_option maxHeartbeats 1000000 in
theorem z5s {σ V:Store} {p4 p6 p7 p8 p9 pt:Nat} (inner:Bool) {v wv bo:AV} (c:Ch) (a:At) (ty:List Int) {fr:Prop} (h46:¬ p4=p6) (h6:¬ p6=p4) (k48:¬ p4=p8) (k68:¬ p6=p8) (t4:¬ p4=pt) (t6:¬ p6=pt) (t8:¬ p8=pt) (hσt:σ pt=none)
 (V4:V p4=some (.box zC)) (V6:V p6=some (.box zN)) (Vt:V pt=some (.box (flags ty))) (VA:AJ σ p8 a fr V) (h8:c.kind=8→fr) (hk0:0≤c.kind) (hk1:c.kind<256)
 (hv:c.val.length≤1000000) (hu:U8s c.val) (hal:c.all.length≤1000000) (hra:Rd 1 σ (c.all.map cB) wv) {n r:Env→Store→Prop} {xx:Nat→Env→Store→Prop}
 (hgo:∀ a' t,stepA c a = .ok a'→AJ σ p8 a' (fr∧c.kind≠8) t→t pt=some (.box (flags (c.kind::ty)))→(∀ q o,q≠p8→q≠pt→V q=some o→t q=some o) →
   (∀ E:Env,n ((0,v)::(1,.bool inner)::(4,.ptr p4 0)::(6,.ptr p6 0)::(7,.ptr p7 0)::(8,.ptr p8 0)::(9,.ptr p9 0)::(10,.ptr pt 0)::E) t)∧∀ E:Env,xx 1 ((0,v)::(1,.bool inner)::(4,.ptr p4 0)::(6,.ptr p6 0)::(7,.ptr p7 0)::(8,.ptr p8 0)::(9,.ptr p9 0)::(10,.ptr pt 0)::E) t)
 (hbad:∀ t nt,stepA c a = .error nt→Store.sub σ t→r [(4,.ptr p4 0),(5,.sl 1 []),(6,.ptr p6 0)] ((t.set p4 (.box zeroAt.c)).set p6 (.box [.int .i64 3,.int .i64 nt.1,.sl 1 (nt.2.map cB)]))) :
 bwp Tryz.prog Tsr.t42_75 [(0,v),(1,.bool inner),(4,.ptr p4 0),(6,.ptr p6 0),(7,.ptr p7 0),(8,.ptr p8 0),(9,.ptr p9 0),(10,.ptr pt 0),(12,.int .i64 c.fl),(13,.int .i64 c.kind),(14,.int .i64 (c.val.length:Int)),(15,.sl 1 (c.val.map cB)),(16,wv),(74,bo)] V n r xx:=by
 simp only [Tsr.t42_75]
 obtain ⟨K,hK,hK2⟩:∃ K:Nat,c.kind=(K:Int)∧K<256:=⟨c.kind.toNat,by omega,by omega⟩
 have fl256:=zx
 simp only [hK,Vt,↓vcPre,↓z0,↓reduceIte,vcPost,vcStd,Nat.reduceEqDiff,reduceCtorEq,Nat.reduceAdd,Nat.reduceLeDiff,Int.reduceLT,Int.reduceLE,↓u_setN]
 refine ⟨hK2,?_⟩
 rw [z2f ty hK2,y6]
 rw [←hK]
 have hVσ:=VA.2.1
 have hVt:Store.sub σ (V.set pt (.box (flags (c.kind::ty)))):=za VA.2.1 hσt
 have Wt:(V.set pt (.box (flags (c.kind::ty)))) pt=some (.box (flags (c.kind::ty))):=Store.set_same _ _ _
 have W4:(V.set pt (.box (flags (c.kind::ty)))) p4=some (.box zC):=by rw [Store.set_ne _ _ t4];exact V4
 have W6:(V.set pt (.box (flags (c.kind::ty)))) p6=some (.box zN):=by rw [Store.set_ne _ _ t6];exact V6
 have WA:AJ σ p8 a fr (V.set pt (.box (flags (c.kind::ty)))):=by
  obtain ⟨q1,q2,pv,cv,q3,q4,q5,q6⟩:=VA
  exact ⟨q1,hVt,pv,cv,by rw [Store.set_ne _ _ t8];exact q3,q4,q5.setId Vt (fun M e=>by cases e),q6⟩
 have Wk:∀ q o,q≠p8→q≠pt→V q=some o→(V.set pt (.box (flags (c.kind::ty)))) q=some o:=fun q o _ h2 h=>by rw [Store.set_ne _ _ h2];exact h
 generalize V.set pt (.box (flags (c.kind::ty)))=W at hVt Wt W4 W6 WA Wk ⊢
 have e1:andI c.fl 128=bitInt .and .i64 c.fl 128:=rfl
 have e2:andI c.fl 192=bitInt .and .i64 c.fl 192:=rfl
 have e3:andI c.fl 32=bitInt .and .i64 c.fl 32:=rfl
 have szl:splice 0 zeroAt.c zC=some zeroAt.c:=rfl
 have szn:∀ x y z:AV,splice 0 [x,y,z] zN=some [x,y,z]:=fun _ _ _=>rfl
 have z9:zeroAt.c.length=9:=rfl
 have nt:∀ (t:Store) (x:Int),Store.sub σ t→ACalls Tryz.prog 85 [.int .i64 x,wv] t (fun r s'=>s'=t∧r=outD (.error (x,c.all))):=fun t x h=>s85 (hra.mono h) (by omega) x
 refine (c86 c.kind).Q ?_
 by_cases hw:wantOf c.kind=0
 ·rw [hw]
  simp only [↓vcPre,↓z0,↓reduceIte,vcPost,vcStd,Nat.reduceEqDiff,reduceCtorEq,Nat.reduceAdd,Nat.reduceLeDiff,Int.reduceLT,Int.reduceLE,↓u_setN]
  have hst:stepA c a=if andI c.fl 128=0 then .error (2,c.all) else .ok a:=by unfold stepA;rw [if_pos hw]
  refine ⟨fun g => ?_,fun g => ?_⟩
  ·refine (nt W 2 hVt).Q ?_
   rintro r' t ⟨rfl,rfl⟩
   simp only [outD]
   simp only [W4,W6,h46,h6,z9,szl,szn,↓vcPre,↓z0,↓reduceIte,vcPost,vcStd,Nat.reduceEqDiff,reduceCtorEq,Nat.reduceAdd,Nat.reduceLeDiff,Int.reduceLT,Int.reduceLE,↓u_setN]
   exact hbad _ (2,c.all) (by rw [hst,if_pos (e1.trans g)]) hVt
  ·have hne:c.kind≠8:=fun e=>by rw [e] at hw;exact absurd hw (by decide)
   refine (hgo a W (by rw [hst,if_neg (by rw [e1];exact g)]) ?_ Wt Wk).2 _
   obtain ⟨q1,q2,pv,cv,q3,q4,q5,q6⟩:=WA
   exact ⟨q1,q2,pv,cv,q3,q4,q5,fun h=>q6 h.1⟩
 ·simp only [hw,↓vcPre,↓z0,↓reduceIte,vcPost,vcStd,Nat.reduceEqDiff,reduceCtorEq,Nat.reduceAdd,Nat.reduceLeDiff,Int.reduceLT,Int.reduceLE,↓u_setN]
  have rest:¬ (andI c.fl 192≠wantOf c.kind∨andI c.fl 32≠0∧c.kind≠8)→fitsOf c.kind c.val.length→∀ bo',bwp Tryz.prog Tsr.t42_116 [(0,v),(1,.bool inner),(4,.ptr p4 0),(6,.ptr p6 0),(7,.ptr p7 0),(8,.ptr p8 0),(9,.ptr p9 0),(10,.ptr pt 0),(13,.int .i64 c.kind),(15,.sl 1 (c.val.map cB)),(16,wv),(110,bo')] W n r xx:=by
   intro hb hf bo'
   simp only [Tsr.t42_116]
   have hst:stepA c a=valA c a:=by unfold stepA;rw [if_neg hw,if_neg hb,if_neg (not_not_intro hf)]
   simp only [↓vcPre,↓z0,↓reduceIte,vcPost,vcStd,Nat.reduceEqDiff,reduceCtorEq,Nat.reduceAdd,Nat.reduceLeDiff,Int.reduceLT,Int.reduceLE,↓u_setN]
   refine (s88 WA c hw hf hv hu h8).Q ?_
   rintro r' t ⟨hk,hτt,hpost⟩
   cases hva:valA c a with
   | ok a' =>
     rw [hva] at hpost
     obtain ⟨rfl,hA⟩:=hpost
     simp only [↓vcPre,↓z0,↓reduceIte,vcPost,vcStd,Nat.reduceEqDiff,reduceCtorEq,Nat.reduceAdd,Nat.reduceLeDiff,Int.reduceLT,Int.reduceLE,↓u_setN]
     have G:=hgo a' t (hst.trans hva) hA (hk _ _ (fun e=>t8 e.symm) Wt) (fun q o h1 h2 h3=>hk _ _ h1 (Wk q o h1 h2 h3))
     exact ⟨fun h=>absurd h (by decide),fun _=>G.1 _⟩
   | error nn =>
     rw [hva] at hpost
     obtain ⟨rfl,h0n⟩:=hpost
     obtain ⟨nx,nM⟩:=nn
     obtain ⟨g11,gall⟩:=z76 hva
     simp only at h0n g11 gall
     have u4:=hk _ _ k48 W4
     have u6:=hk _ _ k68 W6
     simp only [↓vcPre,↓z0,↓reduceIte,vcPost,vcStd,Nat.reduceEqDiff,reduceCtorEq,Nat.reduceAdd,Nat.reduceLeDiff,Int.reduceLT,Int.reduceLE,↓u_setN]
     refine ⟨fun g => ?_,fun g=>⟨fun _ => ?_,fun g0=>by omega⟩⟩
     ·refine (s85 (M:=[]) Rd.nils (by simp) 11).Q ?_
      rintro r' t' ⟨rfl,rfl⟩
      simp only [outD]
      simp only [u4,u6,h46,h6,z9,szl,szn,↓vcPre,↓z0,↓reduceIte,vcPost,vcStd,Nat.reduceEqDiff,reduceCtorEq,Nat.reduceAdd,Nat.reduceLeDiff,Int.reduceLT,Int.reduceLE,↓u_setN]
      have:=hbad t' (nx,nM) (hst.trans hva) hτt
      rw [g11 g,g] at this
      exact this
     ·refine (nt t nx hτt).Q ?_
      rintro r' t' ⟨rfl,rfl⟩
      simp only [outD]
      simp only [u4,u6,h46,h6,z9,szl,szn,↓vcPre,↓z0,↓reduceIte,vcPost,vcStd,Nat.reduceEqDiff,reduceCtorEq,Nat.reduceAdd,Nat.reduceLeDiff,Int.reduceLT,Int.reduceLE,↓u_setN]
      have:=hbad t' (nx,nM) (hst.trans hva) hτt
      rw [gall g] at this
      exact this
  have f4:(andI c.fl 192≠wantOf c.kind∨andI c.fl 32≠0∧c.kind≠8)→stepA c a = .error (4,c.all):=fun h=>by unfold stepA;rw [if_neg hw,if_pos h]
  refine ⟨fun c1=>⟨fun c2=>⟨fun c3 => ?_,fun c3 => ?_⟩,fun c2 => ?_⟩,fun c1 => ?_⟩
  ·refine (nt W 4 hVt).Q ?_
   rintro r' t ⟨rfl,rfl⟩
   simp only [outD]
   simp only [W4,W6,h46,h6,z9,szl,szn,↓vcPre,↓z0,↓reduceIte,vcPost,vcStd,Nat.reduceEqDiff,reduceCtorEq,Nat.reduceAdd,Nat.reduceLeDiff,Int.reduceLT,Int.reduceLE,↓u_setN]
   exact hbad _ (4,c.all) (f4 (by rw [e2,e3];omega)) hVt
  ·refine (c87 c.kind c.val.length hv).Q ?_
   have hb:¬ (andI c.fl 192≠wantOf c.kind∨andI c.fl 32≠0∧c.kind≠8):=by rw [e2,e3];omega
   by_cases hf:fitsOf c.kind c.val.length
   ·rw [decide_eq_true hf]
    simp only [↓vcPre,↓z0,↓reduceIte,vcPost,vcStd,Nat.reduceEqDiff,reduceCtorEq,Nat.reduceAdd,Nat.reduceLeDiff,Int.reduceLT,Int.reduceLE,↓u_setN]
    exact rest hb hf _
   ·have h5:stepA c a = .error (5,c.all):=by unfold stepA;rw [if_neg hw,if_neg hb,if_pos hf]
    rw [decide_eq_false hf]
    simp only [↓vcPre,↓z0,↓reduceIte,vcPost,vcStd,Nat.reduceEqDiff,reduceCtorEq,Nat.reduceAdd,Nat.reduceLeDiff,Int.reduceLT,Int.reduceLE,↓u_setN]
    refine (nt W 5 hVt).Q ?_
    rintro r' t ⟨rfl,rfl⟩
    simp only [outD]
    simp only [W4,W6,h46,h6,z9,szl,szn,↓vcPre,↓z0,↓reduceIte,vcPost,vcStd,Nat.reduceEqDiff,reduceCtorEq,Nat.reduceAdd,Nat.reduceLeDiff,Int.reduceLT,Int.reduceLE,↓u_setN]
    exact hbad _ (5,c.all) h5 hVt
  ·refine (c87 c.kind c.val.length hv).Q ?_
   have hb:¬ (andI c.fl 192≠wantOf c.kind∨andI c.fl 32≠0∧c.kind≠8):=by rw [e2,e3];omega
   by_cases hf:fitsOf c.kind c.val.length
   ·rw [decide_eq_true hf]
    simp only [↓vcPre,↓z0,↓reduceIte,vcPost,vcStd,Nat.reduceEqDiff,reduceCtorEq,Nat.reduceAdd,Nat.reduceLeDiff,Int.reduceLT,Int.reduceLE,↓u_setN]
    exact rest hb hf _
   ·have h5:stepA c a = .error (5,c.all):=by unfold stepA;rw [if_neg hw,if_neg hb,if_pos hf]
    rw [decide_eq_false hf]
    simp only [↓vcPre,↓z0,↓reduceIte,vcPost,vcStd,Nat.reduceEqDiff,reduceCtorEq,Nat.reduceAdd,Nat.reduceLeDiff,Int.reduceLT,Int.reduceLE,↓u_setN]
    refine (nt W 5 hVt).Q ?_
    rintro r' t ⟨rfl,rfl⟩
    simp only [outD]
    simp only [W4,W6,h46,h6,z9,szl,szn,↓vcPre,↓z0,↓reduceIte,vcPost,vcStd,Nat.reduceEqDiff,reduceCtorEq,Nat.reduceAdd,Nat.reduceLeDiff,Int.reduceLT,Int.reduceLE,↓u_setN]
    exact hbad _ (5,c.all) h5 hVt
  ·refine (nt W 4 hVt).Q ?_
   rintro r' t ⟨rfl,rfl⟩
   simp only [outD]
   simp only [W4,W6,h46,h6,z9,szl,szn,↓vcPre,↓z0,↓reduceIte,vcPost,vcStd,Nat.reduceEqDiff,reduceCtorEq,Nat.reduceAdd,Nat.reduceLeDiff,Int.reduceLT,Int.reduceLE,↓u_setN]
   exact hbad _ (4,c.all) (f4 (by rw [e2,e3];omega)) hVt
def selN (ty:List Int) (k:Nat):List Int:=((List.range k).map fun n:Nat=>(n:Int)).filter fun x=>decide (x ∈ ty)
theorem z13 (ty:List Int) (k:Nat):selN ty (k+1)=selN ty k++(if (k:Int) ∈ ty then [(k:Int)] else []):=by
 simp only [selN,List.range_succ,List.map_append,List.filter_append,List.map_cons,List.map_nil,List.filter_cons,List.filter_nil,decide_eq_true_eq]
theorem z77 (ty:List Int) (k:Nat):(selN ty k).length≤k:=by
 have:=List.length_filter_le (fun x=>decide (x ∈ ty)) ((List.range k).map fun n:Nat=>(n:Int))
 simpa [selN] using this
theorem z2q {ty:List Int} (hn:ty.Nodup) (hr:∀ x ∈ ty,0≤x∧x<256):selN ty 256=ty.mergeSort leI:=by
 have hlt:((List.range 256).map fun n:Nat=>(n:Int)).Pairwise (· < ·):=by
  rw [List.pairwise_map]
  exact List.pairwise_lt_range.imp fun h=>by omega
 refine qo ?_ ((hlt.filter _).imp fun h=>by omega)
 refine (List.perm_ext_iff_of_nodup ((hlt.filter _).imp fun h=>by omega) hn).2 fun x => ?_
 simp only [selN,List.mem_filter,List.mem_map,List.mem_range,decide_eq_true_eq]
 refine ⟨fun h=>h.2,fun h=>⟨⟨x.toNat,?_,?_⟩,h⟩⟩
 ·have:=hr x h;omega
 ·have:=hr x h;omega
theorem zef {f:Nat} {a:At} {pv cv R:AV} {σ β s:Store} (hp:pv = .sl 2 (a.path.map Seg.c)∨pv = .nils∧a.path=[]) (ho:Own 1 σ (a.cms.map cU) cv β) (hσ:Store.sub σ β) (hs:Store.sub β s)
 (h:∀ σ',ACalls Tryz.prog f [.agg a.c] σ' (fun r s'=>s'=σ'∧r=R)):ACalls Tryz.prog f [.agg [.int .i64 a.org,pv,.int .u32 a.nxt,.bool a.hm,.int .u32 a.med,.bool a.hp,.int .u32 a.prf,.bool a.atm,cv]] s (fun r s'=>r=R∧Store.sub σ s'∧∀ q o,s q=some o→(β q=none∨∀ L,o ≠ .arr 1 L)→s' q=some o):=by
 have h1:Imp pv (.sl 2 (a.path.map Seg.c)):=by
  rcases hp with rfl | ⟨rfl,e⟩
  ·exact .refl rfl
  ·rw [e];exact .nils
 have hf:∀ c ∈ a.c,c.flat=true:=by
  intro c hc
  simp only [At.c,List.mem_cons,List.not_mem_nil,or_false] at hc
  rcases hc with rfl | rfl | rfl | rfl | rfl | rfl | rfl | rfl | rfl <;> rfl
 have hcf:cv.flat=true:=by rcases ho with ⟨_,rfl⟩ | ⟨g,rfl,_⟩ <;> rfl
 have hi:ImpL [.int .i64 a.org,pv,.int .u32 a.nxt,.bool a.hm,.int .u32 a.med,.bool a.hp,.int .u32 a.prf,.bool a.atm,cv] [.int .i64 a.org,.sl 2 (a.path.map Seg.c),.int .u32 a.nxt,.bool a.hm,.int .u32 a.med,.bool a.hp,.int .u32 a.prf,.bool a.atm,cv] :=
  .cons (.refl rfl) (.cons h1 (.cons (.refl rfl) (.cons (.refl rfl) (.cons (.refl rfl) (.cons (.refl rfl) (.cons (.refl rfl) (.cons (.refl rfl) (.cons (.refl hcf) .nil))))))))
 refine ACalls.weakArgs (h s).1 (WeakL.pos 0 rfl (Weak.agg (WeakL.imp hi ?_)))
 rcases ho with ⟨hL,rfl⟩ | ⟨g,rfl,hg,hh⟩
 ·refine WeakL.nil 8 1 rfl (WeakL.pure ?_)
  have e:a.cms=[]:=List.map_eq_nil_iff.1 hL
  have ec:([.int .i64 a.org,.sl 2 (a.path.map Seg.c),.int .u32 a.nxt,.bool a.hm,.int .u32 a.med,.bool a.hp,.int .u32 a.prf,.bool a.atm,.nils]:List AV).set 8 (.sl 1 [])=a.c:=by simp [At.c,e]
  rw [ec]
  refine ⟨hf,WeakL.pure ?_⟩
  exact (h s).mono fun r s' ⟨x,y⟩=>⟨y,x ▸ Store.sub_trans hσ hs,fun q o hq _=>x ▸ hq⟩
 ·refine WeakL.freeze 8 rfl (hs _ _ hh) (by omega) (WeakL.pure ?_)
  have ec:([.int .i64 a.org,.sl 2 (a.path.map Seg.c),.int .u32 a.nxt,.bool a.hm,.int .u32 a.med,.bool a.hp,.int .u32 a.prf,.bool a.atm,.os g 1 0 (a.cms.map cU).length]:List AV).set 8 (.sl 1 (((a.cms.map cU).drop 0).take (a.cms.map cU).length))=a.c:=by rw [List.drop_zero,List.take_length];rfl
  rw [ec]
  refine ⟨hf,WeakL.pure ?_⟩
  refine (h (s.del g)).mono fun r s' ⟨x,y⟩=>⟨y,x ▸ sub_del (Store.sub_trans hσ hs) hg,fun q o hq hc => ?_⟩
  rw [x,Store.del_ne _ (fun e => ?_)]
  ·exact hq
  ·subst e
   rcases hc with hc | hc
   ·rw [hh] at hc;cases hc
   ·rw [hs _ _ hh] at hq;cases hq;exact hc _ rfl
set_option maxHeartbeats 1000000 in
theorem s42 {σ:Store} {B:List Int} {v:AV} (hr:Rd 1 σ (B.map cB) v) (hB:B.length≤1000000) (hu:U8s B) (inner:Bool):ACalls Tryz.prog 42 [v,.bool inner] σ (fun r s=>s=σ∧r=outD (decA inner B)):=by
 refine zi Tsr.F42 (by simp [Tsr.F42,Fn.mkX]) ?_
 simp only [Tsr.F42,Fn.mkX,Tsr.b42]
 rw [z5r]
 rw [show [AV.int .i64 0,.nils,.int .u32 0,.bool false,.int .u32 0,.bool false,.int .u32 0,.bool false,.nils]=zC from rfl,show [AV.int .i64 0,.int .i64 0,.nils]=zN from rfl]
 simp only [↓vcPre,↓z0,↓reduceIte,vcPost,vcStd,Nat.reduceEqDiff,reduceCtorEq,Nat.reduceAdd,Nat.reduceLeDiff,Int.reduceLT,Int.reduceLE,↓u_setN]
 refine AllocQ.i0 fun p4 h4 => ?_
 simp only [↓vcPre,↓z0,↓reduceIte,vcPost,vcStd,Nat.reduceEqDiff,reduceCtorEq,Nat.reduceAdd,Nat.reduceLeDiff,Int.reduceLT,Int.reduceLE,↓u_setN]
 refine AllocQ.i1 fun p6 h6 h46 h6s => ?_
 simp only [↓vcPre,↓z0,↓reduceIte,vcPost,vcStd,Nat.reduceEqDiff,reduceCtorEq,Nat.reduceAdd,Nat.reduceLeDiff,Int.reduceLT,Int.reduceLE,↓u_setN]
 have hvt:=hr.isTup
 have sT:Store.sub σ ((σ.set p4 (.box zC)).set p6 (.box zN)):=zo h4 h6s h6
 have T4:((σ.set p4 (.box zC)).set p6 (.box zN)) p4=some (.box zC):=by rw [Store.set_ne _ _ h46,Store.set_same]
 have T6:((σ.set p4 (.box zC)).set p6 (.box zN)) p6=some (.box zN):=Store.set_same _ _ _
 generalize (σ.set p4 (.box zC)).set p6 (.box zN)=T at sT T4 T6 ⊢
 have sp3:splice 0 [v] [.nils,.int .i64 0,.bool false]=some [v,.int .i64 0,.bool false]:=rfl
 simp only [hvt.1,hvt.2,sp3,↓vcPre,↓z0,↓reduceIte,vcPost,vcStd,Nat.reduceEqDiff,reduceCtorEq,Nat.reduceAdd,Nat.reduceLeDiff,Int.reduceLT,Int.reduceLE,↓u_setN]
 refine AllocQ.i0 fun p7 h7 => ?_
 simp only [↓vcPre,↓z0,↓reduceIte,vcPost,vcStd,Nat.reduceEqDiff,reduceCtorEq,Nat.reduceAdd,Nat.reduceLeDiff,Int.reduceLT,Int.reduceLE,↓u_setN]
 refine AllocQ.i1 fun p8 h87 h78 h8 => ?_
 have k4:¬ p4=p7:=fun e=>by rw [e,h7] at T4;cases T4
 have k6:¬ p6=p7:=fun e=>by rw [e,h7] at T6;cases T6
 have k48:¬ p4=p8:=fun e=>by rw [e,h8] at T4;cases T4
 have k68:¬ p6=p8:=fun e=>by rw [e,h8] at T6;cases T6
 have hσ7:=zl sT h7
 have hσ8:=zl sT h8
 simp only [↓vcPre,↓z0,↓reduceIte,vcPost,vcStd,Nat.reduceEqDiff,reduceCtorEq,Nat.reduceAdd,Nat.reduceLeDiff,Int.reduceLT,Int.reduceLE,↓u_setN]
 have sU:Store.sub T ((T.set p7 (.box [v,.int .i64 0,.bool false])).set p8 (.box zC)):=zo h7 h8 h87
 have U7:((T.set p7 (.box [v,.int .i64 0,.bool false])).set p8 (.box zC)) p7=some (.box [v,.int .i64 0,.bool false]):=by rw [Store.set_ne _ _ h78,Store.set_same]
 have U8:((T.set p7 (.box [v,.int .i64 0,.bool false])).set p8 (.box zC)) p8=some (.box zC):=Store.set_same _ _ _
 generalize (T.set p7 (.box [v,.int .i64 0,.bool false])).set p8 (.box zC)=U at sU U7 U8 ⊢
 refine AllocQ.i0 fun p9 h9 => ?_
 simp only [↓vcPre,↓z0,↓reduceIte,vcPost,vcStd,Nat.reduceEqDiff,reduceCtorEq,Nat.reduceAdd,Nat.reduceLeDiff,Int.reduceLT,Int.reduceLE,↓u_setN]
 refine AllocQ.i1 fun pt ht9 h9t ht => ?_
 have U4:=sU _ _ T4
 have U6:=sU _ _ T6
 have q4:¬ p4=p9:=fun e=>by rw [e,h9] at U4;cases U4
 have q6:¬ p6=p9:=fun e=>by rw [e,h9] at U6;cases U6
 have q7:¬ p7=p9:=fun e=>by rw [e,h9] at U7;cases U7
 have q8:¬ p8=p9:=fun e=>by rw [e,h9] at U8;cases U8
 have t4:¬ p4=pt:=fun e=>by rw [e,ht] at U4;cases U4
 have t6:¬ p6=pt:=fun e=>by rw [e,ht] at U6;cases U6
 have t7:¬ p7=pt:=fun e=>by rw [e,ht] at U7;cases U7
 have t8:¬ p8=pt:=fun e=>by rw [e,ht] at U8;cases U8
 have hσ9:=zl (Store.sub_trans sT sU) h9
 have hσt:=zl (Store.sub_trans sT sU) ht
 have sV:Store.sub U ((U.set p9 (.box (flags []))).set pt (.box (flags []))):=zo h9 ht ht9
 have V9:((U.set p9 (.box (flags []))).set pt (.box (flags []))) p9=some (.box (flags [])):=by rw [Store.set_ne _ _ h9t,Store.set_same]
 have Vt:((U.set p9 (.box (flags []))).set pt (.box (flags []))) pt=some (.box (flags [])):=Store.set_same _ _ _
 have V4:=sV _ _ U4
 have V6:=sV _ _ U6
 have V7:=sV _ _ U7
 have V8:=sV _ _ U8
 simp only [↓vcPre,↓z0,↓reduceIte,vcPost,vcStd,Nat.reduceEqDiff,reduceCtorEq,Nat.reduceAdd,Nat.reduceLeDiff,Int.reduceLT,Int.reduceLE,↓u_setN]
 generalize (U.set p9 (.box (flags []))).set pt (.box (flags []))=V at sV V9 Vt V4 V6 V7 V8 ⊢
 have sσ:=Store.sub_trans sT (Store.sub_trans sU sV)
 have hz:RZ σ v B σ p7 B false V:=⟨0,hσ7,sσ,Store.sub_refl _,V7,hr,by omega,by simp,by omega,hu⟩
 have zC9:zC.length=9:=rfl
 have bad:∀ (t:Store) (n:Nt),Store.sub σ t→decL inner B.length B zeroAt [] [] = .error n → @EndQ [(4,.ptr p4 0),(5,.sl 1 []),(6,.ptr p6 0)] ((t.set p4 (.box zeroAt.c)).set p6 (.box [.int .i64 3,.int .i64 n.1,.sl 1 (n.2.map cB)])) ⟨Tsr.F42.slots,fun r s=>s=σ∧r=outD (decA inner B)⟩:=by
  intro t n ht he
  refine EndQ.to σ (.tup [.agg zeroAt.c,.sl 1 [],.agg [.int .i64 3,.int .i64 n.1,.sl 1 (n.2.map cB)]]) ?_ (za (za ht h4) h6s) ⟨rfl,?_⟩
  ·show Env.res [(4,AV.ptr p4 0),(5,.sl 1 []),(6,AV.ptr p6 0)] _ [RS.c 4 9 true,RS.t 5,RS.c 6 3 true]=_
   simp only [h46,h6,Store.set_same,↓vcPre,↓z0,↓reduceIte,vcPost,vcStd,Nat.reduceEqDiff,reduceCtorEq,Nat.reduceAdd,Nat.reduceLeDiff,Int.reduceLT,Int.reduceLE,↓u_setN]
   rfl
  ·simp only [decA,he,outD]
 refine LoopQ.inv (S:=(List Int×At)×(List Int×List Int)×Store) (fun _=>[(0,v),(1,.bool inner),(4,.ptr p4 0),(6,.ptr p6 0),(7,.ptr p7 0),(8,.ptr p8 0),(9,.ptr p9 0),(10,.ptr pt 0)]) (fun w=>w.2.2)
  (fun w=>RZ σ v B σ p7 w.1.1 false w.2.2∧AJ σ p8 w.1.2 (8 ∉ w.2.1.1) w.2.2∧w.1.2.ok∧w.2.2 p4=some (.box zC)∧w.2.2 p6=some (.box zN)∧w.2.2 p9=some (.box (flags w.2.1.1))∧w.2.2 pt=some (.box (flags w.2.1.2))∧w.2.1.2.Nodup∧(∀ x ∈ w.2.1.2,x ∈ w.2.1.1∧0≤x∧x<256)∧decL inner w.1.1.length w.1.1 w.1.2 w.2.1.1 w.2.1.2=decL inner B.length B zeroAt [] [])
  (fun w=>w.1.1.length) ((B,zeroAt),([],[]),V) rfl (Store.sub_refl _) ⟨hz,⟨hσ8,sσ,.nils,.nils,V8,.inr ⟨rfl,rfl⟩,Own.nil,fun _=>⟨rfl,rfl⟩⟩,wz,V4,V6,V9,Vt,by simp,by simp,rfl⟩ ?_
 rintro ⟨⟨R,a⟩,⟨S,ty⟩,s⟩ ⟨i1,i2,i3,i4,i5,i6,i7,i8,i9,i10⟩
 simp only at i1 i2 i3 i4 i5 i6 i7 i8 i9 i10
 simp only [↓vcPre,↓z0,↓reduceIte,vcPost,vcStd,Nat.reduceEqDiff,reduceCtorEq,Nat.reduceAdd,Nat.reduceLeDiff,Int.reduceLT,Int.reduceLE,↓u_setN]
 refine (zbo i1).Q ?_
 rintro r s' ⟨rfl,rfl⟩
 simp only [Bool.false_eq_true,if_false]
 simp only [↓vcPre,↓z0,↓reduceIte,vcPost,vcStd,Nat.reduceEqDiff,reduceCtorEq,Nat.reduceAdd,Nat.reduceLeDiff,Int.reduceLT,Int.reduceLE,↓u_setN]
 have hσs:=i2.2.1
 refine ⟨fun c1 => ?_,fun c1 => ?_⟩
 ·obtain ⟨x0,R2,hR2⟩:∃ x r,R=x::r:=by cases R with | nil=>simp at c1 | cons x r=>exact ⟨x,r,rfl⟩
  obtain ⟨at0,y1,y2,y3,hp7,y4,hat,hR,y5,huB⟩:=i1
  have i1:RZ σ v B σ p7 R false s':=⟨at0,y1,y2,y3,hp7,y4,hat,hR,y5,huB⟩
  have huR:U8s R:=by rw [hR];exact huB.drop _
  have hRlen:R.length=B.length - at0:=by rw [hR,List.length_drop]
  have hstep:decL inner R.length R a S ty=match chunk R with
   | none => .error (1,[])
   | some c=>if c.kind ∈ S then .error (1,[]) else if c.kind=5∧inner=false then decL inner c.rest.length c.rest a (c.kind::S) ty
     else match stepA c a with | .error n => .error n | .ok a'=>decL inner c.rest.length c.rest a' (c.kind::S) (ty++[c.kind]):=by
   rw [hR2]
   show decL inner (R2.length+1) (x0::R2) a S ty=_
   simp only [decL]
   cases hc:chunk (x0::R2) with
   | none=>rfl
   | some c =>
     have hl:=xw hc
     simp only [List.length_cons] at hl
     have e:=fun a S ty=>wy inner R2.length c.rest.length c.rest a S ty (by omega) (Nat.le_refl _)
     simp only [e]
     rfl
  rw [i10] at hstep
  have hch:=qi huR
  unfold chunkF chain at hch
  have hb:=i1.base
  simp only [hp7,↓vcPre,↓z0,↓reduceIte,vcPost,vcStd,Nat.reduceEqDiff,reduceCtorEq,Nat.reduceAdd,Nat.reduceLeDiff,Int.reduceLT,Int.reduceLE,↓u_setN]
  refine (z75 hb.1).Q ?_
  have n1:=wg (k:=1) (b:=false) huR
  generalize numM 1 R false=q at hch n1 ⊢
  obtain ⟨f,R3,b1⟩:=q
  simp only at hch n1
  rintro r s1 ⟨rfl,h1⟩
  simp only at h1
  simp only [↓vcPre,↓z0,↓reduceIte,vcPost,vcStd,Nat.reduceEqDiff,reduceCtorEq,Nat.reduceAdd,Nat.reduceLeDiff,Int.reduceLT,Int.reduceLE,↓u_setN]
  refine (z75 h1).Q ?_
  have n2:=wg (k:=1) (b:=b1) n1.1
  generalize numM 1 R3 b1=q at hch n2 ⊢
  obtain ⟨k,R4,b2⟩:=q
  simp only at hch n2
  rintro r s2 ⟨rfl,h2⟩
  simp only at h2
  have tail:∀ (n:Int) (R5:List Int) (b3:Bool) (s3:Store) (bo:AV),n<4294967296→RZ σ v B (s'.del p7) p7 R5 b3 s3 →
   ((chunk R=none∧(rawM n R5 b3).2.2=true)∨∃ c,chunk R=some c∧(f,k,n,(rawM n R5 b3).1,(rawM n R5 b3).2.1,(rawM n R5 b3).2.2)=(c.fl,c.kind,(c.val.length:Int),c.val,c.rest,false)∧c.all=R.take (R.length - c.rest.length)∧c.rest=R.drop (R.length - c.rest.length)∧c.rest.length<R.length) →
   ∀ (N Rr:Env→Store→Prop) (X:Nat→Env→Store→Prop),(∀ t nt,Store.sub σ t→decL inner B.length B zeroAt [] [] = .error nt→Rr [(4,.ptr p4 0),(5,.sl 1 []),(6,.ptr p6 0)] ((t.set p4 (.box zeroAt.c)).set p6 (.box [.int .i64 3,.int .i64 nt.1,.sl 1 (nt.2.map cB)]))) →
   (∀ (W1:List Int) (W2:At) (W3 W4:List Int) (t:Store),W1.length<R.length→(RZ σ v B σ p7 W1 false t∧AJ σ p8 W2 (8 ∉ W3) t∧At.ok W2∧t p4=some (.box zC)∧t p6=some (.box zN)∧t p9=some (.box (flags W3))∧t pt=some (.box (flags W4))∧W4.Nodup∧(∀ x ∈ W4,x ∈ W3∧0≤x∧x<256)∧decL inner W1.length W1 W2 W3 W4=decL inner B.length B zeroAt [] [])→(∀ E:Env,N ((0,v)::(1,.bool inner)::(4,.ptr p4 0)::(6,.ptr p6 0)::(7,.ptr p7 0)::(8,.ptr p8 0)::(9,.ptr p9 0)::(10,.ptr pt 0)::E) t)∧(∀ E:Env,X 1 ((0,v)::(1,.bool inner)::(4,.ptr p4 0)::(6,.ptr p6 0)::(7,.ptr p7 0)::(8,.ptr p8 0)::(9,.ptr p9 0)::(10,.ptr pt 0)::E) t)) →
   bwp Tryz.prog Tsr.t42_42 [(0,v),(1,.bool inner),(4,.ptr p4 0),(6,.ptr p6 0),(7,.ptr p7 0),(8,.ptr p8 0),(9,.ptr p9 0),(10,.ptr pt 0),(11,.int .i64 (at0:Int)),(12,.int .i64 f),(13,.int .i64 k),(14,.int .i64 n)] s3 N Rr X:=by
   intro n R5 b3 s3 bo hn h3 hcc N Rr X hret hgo
   simp only [Tsr.t42_42]
   simp only [↓vcPre,↓z0,↓reduceIte,vcPost,vcStd,Nat.reduceEqDiff,reduceCtorEq,Nat.reduceAdd,Nat.reduceLeDiff,Int.reduceLT,Int.reduceLE,↓u_setN]
   refine (zdi h3 n (by omega)).Q ?_
   generalize rawM n R5 b3=q at hcc ⊢
   obtain ⟨val,R6,b4⟩:=q
   simp only at hcc
   rintro r s4 ⟨rfl,h4'⟩
   simp only at h4'
   obtain ⟨at1,z1,z2,z3,hp4',z4,hat1,hR6,z5,z6⟩:=h4'
   have keep:∀ q o,q≠p7→s' q=some o→s4 q=some o:=fun q o hq h=>z2 _ _ (by rw [Store.del_ne _ hq];exact h)
   have σ4:Store.sub σ s4:=Store.sub_trans hb.2 z2
   have w4:=keep _ _ k4 i4
   have w6:=keep _ _ k6 i5
   have w9:=keep _ _ (fun e=>q7 e.symm) i6
   have wt:=keep _ _ (fun e=>t7 e.symm) i7
   have wA:AJ σ p8 a (8 ∉ S) s4:=by
    obtain ⟨q1,q2,pv,cv,q3,q4,q5,q6⟩:=i2
    refine ⟨q1,σ4,pv,cv,keep _ _ h87 q3,q4,?_,q6⟩
    rcases q5 with h | ⟨g,g1,g2,g3⟩
    ·exact .inl h
    ·exact .inr ⟨g,g1,g2,keep _ _ (fun e=>by rw [e,hp7] at g3;cases g3) g3⟩
   have szl:splice 0 zeroAt.c zC=some zeroAt.c:=rfl
   have szn:∀ x y z:AV,splice 0 [x,y,z] zN=some [x,y,z]:=fun _ _ _=>rfl
   have z9:zeroAt.c.length=9:=rfl
   rcases hcc with ⟨hn0,hb4⟩ | ⟨c,hc,he,hca,hcr,hcl⟩
   ·subst hb4
    rw [hn0] at hstep
    simp only [hp4',↓vcPre,↓z0,↓reduceIte,vcPost,vcStd,Nat.reduceEqDiff,reduceCtorEq,Nat.reduceAdd,Nat.reduceLeDiff,Int.reduceLT,Int.reduceLE,↓u_setN]
    refine (s85 (M:=[]) Rd.nils (by simp) 1).Q ?_
    rintro r t ⟨rfl,rfl⟩
    simp only [outD]
    simp only [w4,w6,h46,h6,z9,szl,szn,↓vcPre,↓z0,↓reduceIte,vcPost,vcStd,Nat.reduceEqDiff,reduceCtorEq,Nat.reduceAdd,Nat.reduceLeDiff,Int.reduceLT,Int.reduceLE,↓u_setN]
    exact hret _ (1,[]) σ4 hstep
   ·rw [hc] at hstep
    simp only at hstep
    have ck:=z4g huR hc
    have cu:=qp huR hc
    simp only [Prod.mk.injEq] at he
    obtain ⟨rfl,rfl,rfl,rfl,rfl,rfl⟩:=he
    have hlen1:c.rest.length=B.length - at1:=by rw [hR6,List.length_drop]
    obtain ⟨wv,hwv,hrw⟩:=hr.slice (lo:=at0) (hi:=at1) (by omega) (by simp only [List.length_map];exact hat1)
    have hall:(List.take at1 (B.map cB)).drop at0=c.all.map cB:=by
     rw [hca,hR,←List.map_take,←List.map_drop,List.drop_take]
     congr 2
     simp only [List.length_drop];omega
    rw [hall] at hrw
    simp only [hp4',hwv,w9,↓vcPre,↓z0,↓reduceIte,vcPost,vcStd,Nat.reduceEqDiff,reduceCtorEq,Nat.reduceAdd,Nat.reduceLeDiff,Int.reduceLT,Int.reduceLE,↓u_setN]
    have hK:c.kind.toNat<256:=by omega
    have hKi:((c.kind.toNat:Nat):Int)=c.kind:=Int.toNat_of_nonneg ck.1
    rw [show 0+c.kind.toNat*1=c.kind.toNat by omega,z10 S hK,z16 S hK,hKi]
    refine ⟨ck,by rw [zx];omega,?_⟩
    by_cases hk:c.kind ∈ S
    ·rw [if_pos hk] at hstep
     rw [decide_eq_true hk]
     simp only [↓vcPre,↓z0,↓reduceIte,vcPost,vcStd,Nat.reduceEqDiff,reduceCtorEq,Nat.reduceAdd,Nat.reduceLeDiff,Int.reduceLT,Int.reduceLE,↓u_setN]
     refine (s85 (M:=[]) Rd.nils (by simp) 1).Q ?_
     rintro r t ⟨rfl,rfl⟩
     simp only [outD]
     simp only [w4,w6,h46,h6,z9,szl,szn,↓vcPre,↓z0,↓reduceIte,vcPost,vcStd,Nat.reduceEqDiff,reduceCtorEq,Nat.reduceAdd,Nat.reduceLeDiff,Int.reduceLT,Int.reduceLE,↓u_setN]
     exact hret _ (1,[]) σ4 hstep
    rw [if_neg hk] at hstep
    rw [decide_eq_false hk]
    simp only [↓vcPre,↓z0,↓reduceIte,vcPost,vcStd,Nat.reduceEqDiff,reduceCtorEq,Nat.reduceAdd,Nat.reduceLeDiff,Int.reduceLT,Int.reduceLE,↓u_setN]
    refine ⟨ck,?_⟩
    have hV':Store.sub σ (s4.set p9 (.box (flags (c.kind::S)))):=za σ4 hσ9
    have V9':(s4.set p9 (.box (flags (c.kind::S)))) p9=some (.box (flags (c.kind::S))):=Store.set_same _ _ _
    have V4':(s4.set p9 (.box (flags (c.kind::S)))) p4=some (.box zC):=by rw [Store.set_ne _ _ q4];exact w4
    have V6':(s4.set p9 (.box (flags (c.kind::S)))) p6=some (.box zN):=by rw [Store.set_ne _ _ q6];exact w6
    have Vt':(s4.set p9 (.box (flags (c.kind::S)))) pt=some (.box (flags ty)):=by rw [Store.set_ne _ _ ht9];exact wt
    have V7':(s4.set p9 (.box (flags (c.kind::S)))) p7=some (.box [v,.int .i64 (at1:Int),.bool false]):=by rw [Store.set_ne _ _ q7];exact hp4'
    have VA':AJ σ p8 a (8 ∉ S) (s4.set p9 (.box (flags (c.kind::S)))):=by
     obtain ⟨r1,r2,pv,cv,r3,r4,r5,r6⟩:=wA
     exact ⟨r1,hV',pv,cv,by rw [Store.set_ne _ _ q8];exact r3,r4,r5.setId w9 (fun M e=>by cases e),r6⟩
    generalize s4.set p9 (.box (flags (c.kind::S)))=Z at hV' V9' V4' V6' Vt' V7' VA' ⊢
    have fin:∀ (a':At) (ty':List Int) (t:Store),a'.ok→AJ σ p8 a' (8 ∉ c.kind::S) t→t pt=some (.box (flags ty'))→(∀ q o,q≠p8→q≠pt→Z q=some o→t q=some o)→ty'.Nodup→(∀ x ∈ ty',x ∈ c.kind::S∧0≤x∧x<256)→decL inner B.length B zeroAt [] []=decL inner c.rest.length c.rest a' (c.kind::S) ty' →
     (RZ σ v B σ p7 c.rest false t∧AJ σ p8 a' (8 ∉ c.kind::S) t∧At.ok a'∧t p4=some (.box zC)∧t p6=some (.box zN)∧t p9=some (.box (flags (c.kind::S)))∧t pt=some (.box (flags ty'))∧ty'.Nodup∧(∀ x ∈ ty',x ∈ c.kind::S∧0≤x∧x<256)∧decL inner c.rest.length c.rest a' (c.kind::S) ty'=decL inner B.length B zeroAt [] []):=by
     intro a' ty' t g1 g2 g3 gk g4 g5 g6
     exact ⟨⟨at1,hσ7,g2.2.1,Store.sub_refl _,gk _ _ h78 t7 V7',hr,hat1,hR6,y5,huB⟩,g2,g1,gk _ _ k48 t4 V4',gk _ _ k68 t6 V6',gk _ _ (fun e=>q8 e.symm) h9t V9',g3,g4,g5,g6.symm⟩
    refine ⟨fun e5 => ?_,fun e5 => ?_⟩
    ·cases hin:inner with
     | false =>
       simp only [↓vcPre,↓z0,↓reduceIte,vcPost,vcStd,Nat.reduceEqDiff,reduceCtorEq,Nat.reduceAdd,Nat.reduceLeDiff,Int.reduceLT,Int.reduceLE,↓u_setN]
       subst hin
       exact (hgo c.rest a (c.kind::S) ty Z hcl (fin a ty Z i3 (VA'.weak fun h h'=>h (List.mem_cons_of_mem _ h')) Vt' (fun _ _ _ _ h=>h) i8 (fun x hx=>⟨List.mem_cons_of_mem _ (i9 x hx).1,(i9 x hx).2⟩) (by rw [hstep,if_pos ⟨e5,rfl⟩]))).2 _
     | true =>
       simp only [↓vcPre,↓z0,↓reduceIte,vcPost,vcStd,Nat.reduceEqDiff,reduceCtorEq,Nat.reduceAdd,Nat.reduceLeDiff,Int.reduceLT,Int.reduceLE,↓u_setN]
       subst hin
       ·have hn5:¬ (c.kind=5∧true=false):=(by simp)
        refine z5s true c a ty (fr:=8 ∉ S) h46 h6 k48 k68 t4 t6 t8 hσt V4' V6' Vt' VA' (fun e h=>hk (e ▸ h)) ck.1 ck.2 (by omega) cu.1 (by omega) hrw (fun a' t g0 gA gt gk => ?_) (fun t nt g0 g1=>hret t nt g1 (by rw [hstep,if_neg hn5,g0]))
        exact hgo c.rest a' (c.kind::S) (ty++[c.kind]) t hcl (fin a' (ty++[c.kind]) t (wn g0 i3 (by omega)) (gA.weak fun h=>⟨fun h'=>h (List.mem_cons_of_mem _ h'),fun e=>h (by rw [e];simp)⟩) (gt.trans (by rw [z12 (S:=c.kind::ty) (S':=ty++[c.kind]) (fun x=>by simp [or_comm])]))
         gk (by rw [List.nodup_append];exact ⟨i8,by simp,fun x hx y hy e=>by simp only [List.mem_singleton] at hy;subst hy;subst e;exact hk (i9 _ hx).1⟩) (fun x hx=>by rcases List.mem_append.1 hx with h | h;exact ⟨List.mem_cons_of_mem _ (i9 x h).1,(i9 x h).2⟩;simp only [List.mem_singleton] at h;subst h;exact ⟨by simp,ck⟩) (by rw [hstep,if_neg hn5,g0]))
    ·have hn5:¬ (c.kind=5∧inner=false):=fun h=>e5 h.1
     refine z5s inner c a ty (fr:=8 ∉ S) h46 h6 k48 k68 t4 t6 t8 hσt V4' V6' Vt' VA' (fun e h=>hk (e ▸ h)) ck.1 ck.2 (by omega) cu.1 (by omega) hrw (fun a' t g0 gA gt gk => ?_) (fun t nt g0 g1=>hret t nt g1 (by rw [hstep,if_neg hn5,g0]))
     exact hgo c.rest a' (c.kind::S) (ty++[c.kind]) t hcl (fin a' (ty++[c.kind]) t (wn g0 i3 (by omega)) (gA.weak fun h=>⟨fun h'=>h (List.mem_cons_of_mem _ h'),fun e=>h (by rw [e];simp)⟩) (gt.trans (by rw [z12 (S:=c.kind::ty) (S':=ty++[c.kind]) (fun x=>by simp [or_comm])]))
      gk (by rw [List.nodup_append];exact ⟨i8,by simp,fun x hx y hy e=>by simp only [List.mem_singleton] at hy;subst hy;subst e;exact hk (i9 _ hx).1⟩) (fun x hx=>by rcases List.mem_append.1 hx with h | h;exact ⟨List.mem_cons_of_mem _ (i9 x h).1,(i9 x h).2⟩;simp only [List.mem_singleton] at h;subst h;exact ⟨by simp,ck⟩) (by rw [hstep,if_neg hn5,g0]))
  simp only [↓vcPre,↓z0,↓reduceIte,vcPost,vcStd,Nat.reduceEqDiff,reduceCtorEq,Nat.reduceAdd,Nat.reduceLeDiff,Int.reduceLT,Int.reduceLE,↓u_setN]
  refine ⟨fun g => ?_,fun g => ?_⟩
  ·rw [show (if andI f 16=0 then numM 1 R4 b2 else numM 2 R4 b2)=numM 2 R4 b2 from if_neg g] at hch
   refine (zdh h2).Q ?_
   have n3:=yp (k:=2) (by omega) (R:=R4) (bad:=b2) n2.1
   rintro r s3 ⟨rfl,h3⟩
   simp only [↓vcPre,↓z0,↓reduceIte,vcPost,vcStd,Nat.reduceEqDiff,reduceCtorEq,Nat.reduceAdd,Nat.reduceLeDiff,Int.reduceLT,Int.reduceLE,↓u_setN]
   exact tail _ _ _ s3 .nil n3.2 h3 hch _ _ _ (fun t nt g1 g2=>bad t nt g1 g2) (fun W1 W2 W3 W4 t hl hI=>⟨fun E=>NextQ.to ((W1,W2),(W3,W4),t) rfl (Store.sub_refl _) hl hI,fun E=>by rw [if_pos rfl];exact NextQ.to ((W1,W2),(W3,W4),t) rfl (Store.sub_refl _) hl hI⟩)
  ·rw [show (if andI f 16=0 then numM 1 R4 b2 else numM 2 R4 b2)=numM 1 R4 b2 from if_pos g] at hch
   refine (z75 h2).Q ?_
   have n3:=yp (k:=1) (by omega) (R:=R4) (bad:=b2) n2.1
   rintro r s3 ⟨rfl,h3⟩
   simp only [↓vcPre,↓z0,↓reduceIte,vcPost,vcStd,Nat.reduceEqDiff,reduceCtorEq,Nat.reduceAdd,Nat.reduceLeDiff,Int.reduceLT,Int.reduceLE,↓u_setN]
   exact tail _ _ _ s3 .nil n3.2 h3 hch _ _ _ (fun t nt g1 g2=>bad t nt g1 g2) (fun W1 W2 W3 W4 t hl hI=>⟨fun E=>NextQ.to ((W1,W2),(W3,W4),t) rfl (Store.sub_refl _) hl hI,fun E=>by rw [if_pos rfl];exact NextQ.to ((W1,W2),(W3,W4),t) rfl (Store.sub_refl _) hl hI⟩)
 ·have hR0:R=[]:=by cases R with | nil=>rfl | cons x r=>simp at c1
  subst hR0
  have hfin:decL inner B.length B zeroAt [] [] = .ok (a,ty):=by rw [←i10];rfl
  simp only [Tsr.t42_19]
  simp only [↓vcPre,↓z0,↓reduceIte,vcPost,vcStd,Nat.reduceEqDiff,reduceCtorEq,Nat.reduceAdd,Nat.reduceLeDiff,Int.reduceLT,Int.reduceLE,↓u_setN]
  refine LoopQ.inv (S:=Nat×List Int×AV×Store) (fun w=>[(4,.ptr p4 0),(6,.ptr p6 0),(8,.ptr p8 0),(10,.ptr pt 0),(19,w.2.2.1),(20,.int .i64 (w.1:Int))]) (fun w=>w.2.2.2) (fun w=>w.1≤256∧Store.sub s' w.2.2.2∧Own 1 s' (w.2.1.map cI) w.2.2.1 w.2.2.2∧w.2.1=selN ty w.1) (fun w=>257 - w.1) (0,[],.nils,s') rfl (Store.sub_refl _) ⟨by simp,Store.sub_refl _,Own.nil,rfl⟩ ?_
  rintro ⟨k,l,lv,t⟩ ⟨m1,m2,m3,m4⟩
  simp only at m1 m2 m3 m4
  have ht:=m2 _ _ i7
  simp only [ht,↓vcPre,↓z0,↓reduceIte,vcPost,vcStd,Nat.reduceEqDiff,reduceCtorEq,Nat.reduceAdd,Nat.reduceLeDiff,Int.reduceLT,Int.reduceLE,↓u_setN]
  refine ⟨fun d1 => ?_,fun d1 => ?_⟩
  ·have hk:k<256:=by omega
   have ei:IntKind.i64.wrap ((k:Int)+1)=((k+1:Nat):Int):=by rw [zj (by unfold I64;omega)];omega
   have hll:l.length≤k:=by rw [m4];exact z77 ty k
   refine ⟨hk,by rw [zx];omega,?_⟩
   rw [show 0+k*1=k by omega,z10 ty hk]
   by_cases hm:(k:Int) ∈ ty
   ·rw [decide_eq_true hm]
    simp only [↓vcPre,↓z0,↓reduceIte,vcPost,vcStd,Nat.reduceEqDiff,reduceCtorEq,Nat.reduceAdd,Nat.reduceLeDiff,Int.reduceLT,Int.reduceLE,↓u_setN]
    refine AllocQ.i0 fun b hb => ?_
    simp only [↓vcPre,↓z0,↓reduceIte,vcPost,vcStd,Nat.reduceEqDiff,reduceCtorEq,Nat.reduceAdd,Nat.reduceLeDiff,Int.reduceLT,Int.reduceLE,↓u_setN]
    have hsb:=Store.sub_set t b (.arr 1 [[.int .i64 (k:Int)]]) hb
    refine Own.appM (τ:=s') (bytes:=8) (Store.sub_trans m2 hsb) (m3.mono hsb) (zn (Store.set_same _ _ _) rfl) (by simp;omega) fun v' t' ht' ho' => ?_
    rw [ei]
    exact NextQ.to (k+1,l++[(k:Int)],v',t') rfl (Store.sub_refl _) (by simp only;omega) ⟨by simp only;omega,ht',by simpa [cI] using ho',by show l++[(k:Int)]=selN ty (k+1);rw [z13,if_pos hm,←m4]⟩
   ·rw [decide_eq_false hm]
    simp only [↓vcPre,↓z0,↓reduceIte,vcPost,vcStd,Nat.reduceEqDiff,reduceCtorEq,Nat.reduceAdd,Nat.reduceLeDiff,Int.reduceLT,Int.reduceLE,↓u_setN]
    rw [ei]
    exact NextQ.to (k+1,l,lv,t) rfl (Store.sub_refl _) (by simp only;omega) ⟨by simp only;omega,m2,m3,by show l=selN ty (k+1);rw [z13,if_neg hm,List.append_nil];exact m4⟩
  ·have hk:k=256:=by omega
   subst hk
   rw [z2q i8 (fun x hx=>(i9 x hx).2)] at m4
   obtain ⟨r1,r2,pv,cv,r3,r4,r5,r6⟩:=i2
   simp only [Tsr.t42_144]
   simp only [m2 _ _ r3,↓vcPre,↓z0,↓reduceIte,vcPost,vcStd,Nat.reduceEqDiff,reduceCtorEq,Nat.reduceAdd,Nat.reduceLeDiff,Int.reduceLT,Int.reduceLE,↓u_setN]
   refine (zef r4 r5 r2 m2 (c41 a i3)).Q ?_
   rintro r t' ⟨rfl,hσt,hkp⟩
   have w4:=hkp _ _ (m2 _ _ i4) (.inr fun L e=>by cases e)
   have w6:=hkp _ _ (m2 _ _ i5) (.inr fun L e=>by cases e)
   have e9:∀ x:At,x.c.length=9:=fun _=>rfl
   have spZ:∀ x:At,splice 0 x.c zC=some x.c:=fun _=>rfl
   have snn:splice 0 zN zN=some zN:=rfl
   have z3:zN.length=3:=rfl
   have snl:splice 0 [.int .i64 0,.int .i64 0,.nils] zN=some zN:=rfl
   have ho:Own 1 σ (l.map cI) lv t':=by
    rcases m3 with h | ⟨g,g1,g2,g3⟩
    ·exact .inl h
    ·exact .inr ⟨g,g1,zl hσs g2,hkp _ _ g3 (.inl g2)⟩
   have ho2:Own 1 σ (l.map cI) lv ((t'.set p4 (.box (canonA a).c)).set p6 (.box zN)):=(ho.setId w4 (fun M e=>by cases e)).setId (by rw [Store.set_ne _ _ h6];exact w6) (fun M e=>by cases e)
   simp only [w4,w6,h46,h6,e9,spZ,snn,z3,snl,↓vcPre,↓z0,↓reduceIte,vcPost,vcStd,Nat.reduceEqDiff,reduceCtorEq,Nat.reduceAdd,Nat.reduceLeDiff,Int.reduceLT,Int.reduceLE,↓u_setN]
   refine EndQ.three (cs:=(canonA a).c) (cs':=(canonA a).c) (ns:=zN) (ns':=[.int .i64 0,.int .i64 0,.sl 1 []]) (tv:=lv) (L:=l.map cI) ?_ (ImpL.refl _ (fun c hc => ?_)) (.cons (.refl rfl) (.cons (.refl rfl) (.cons .nils .nil))) ho2 (za (za hσt h4) h6s) ⟨rfl,?_⟩
   ·show Env.res [(4,AV.ptr p4 0),(5,lv),(6,AV.ptr p6 0)] _ [RS.c 4 9 true,RS.t 5,RS.c 6 3 true]=_
    simp only [h46,h6,Store.set_same,↓vcPre,↓z0,↓reduceIte,vcPost,vcStd,Nat.reduceEqDiff,reduceCtorEq,Nat.reduceAdd,Nat.reduceLeDiff,Int.reduceLT,Int.reduceLE,↓u_setN]
    rfl
   ·simp only [At.c,List.mem_cons,List.not_mem_nil,or_false] at hc
    rcases hc with rfl | rfl | rfl | rfl | rfl | rfl | rfl | rfl | rfl <;> rfl
   ·simp only [decA,hfin,outD,m4]
end Go.Am
namespace Go.Am
open Go.Proofs Go.Sort
def byL (L:List Int):List UInt8:=L.map fun n=>UInt8.ofNat n.toNat
theorem z14:∀ (L:List Int) (acc:List UInt8),toBytes (L.map cB) acc=some (acc.reverse++byL L)
 | [],acc=>by simp [toBytes,byL]
 | x::L,acc=>by
   show toBytes ([.int .u8 x]::L.map cB) acc=_
   simp only [toBytes]
   rw [z14 L];simp [byL]
theorem z5t {τ:Store} {L:List Int} {v:AV} (h:Rd 1 τ (L.map cB) v) {t:Store} (ht:Store.sub τ t):ldv .str [v] t=some (.str ⟨(byL L).toArray⟩):=by
 simp only [ldv,h.1 t ht,Option.bind_some,z14,List.reverse_nil,List.nil_append,Option.map_some]
theorem zdj {a b:List UInt8}:pv (.eqs false) [.str ⟨a.toArray⟩,.str ⟨b.toArray⟩]=some (.bool (a ==b)):=by
 simp [pv,pEqs]
theorem zeg (l:List UInt8):(l ==l)=true:=by simp
end Go.Am
namespace Go.Am
open Go.Proofs Go.Sort
theorem c30 (l:List Int) (h:l.length≤1000000):Pur Tryz.prog 30 [.sl 1 (l.map cI),.sl 1 (l.map cI)] (.bool true):=by
 refine zq Tst.F30 (by simp [Tst.F30,Fn.mkX]) fun σ => ?_
 simp only [Tst.F30,Fn.mkX,Tst.b30]
 simp only [↓vcPre,↓z0,↓reduceIte,vcPost,vcStd,Nat.reduceEqDiff,reduceCtorEq,Nat.reduceAdd,Nat.reduceLeDiff,Int.reduceLT,Int.reduceLE,↓u_setN]
 refine LoopQ.inv (S:=Nat) (fun k=>[(0,.sl 1 (l.map cI)),(1,.sl 1 (l.map cI)),(5,.int .i64 (k:Int))]) (fun _=>σ) (fun k=>k≤l.length) (fun k=>l.length+1 - k) 0 rfl (Store.sub_refl _) (by omega) ?_
 rintro k hk
 simp only [↓vcPre,↓z0,↓reduceIte,vcPost,vcStd,Nat.reduceEqDiff,reduceCtorEq,Nat.reduceAdd,Nat.reduceLeDiff,Int.reduceLT,Int.reduceLE,↓u_setN]
 intro c1
 have ek:IntKind.i64.wrap ((k:Int)+1)=((k+1:Nat):Int):=by rw [zj (by unfold I64;omega)];omega
 refine ⟨by omega,by omega,by simp [cI],?_⟩
 simp only [cI,↓vcPre,↓z0,↓reduceIte,vcPost,vcStd,Nat.reduceEqDiff,reduceCtorEq,Nat.reduceAdd,Nat.reduceLeDiff,Int.reduceLT,Int.reduceLE,↓u_setN]
 rw [ek]
 exact NextQ.to (k+1) rfl (Store.sub_refl _) (by omega) (by omega)
theorem c43 (p q:Int) (M:List Int):Pur Tryz.prog 43 [.agg [.int .i64 p,.int .i64 q,.sl 1 (M.map cB)],.agg [.int .i64 p,.int .i64 q,.sl 1 (M.map cB)]] (.bool true):=by
 refine zq Tst.F43 (by simp [Tst.F43,Fn.mkX]) fun σ => ?_
 simp only [Tst.F43,Fn.mkX,Tst.b43]
 simp only [↓vcPre,↓z0,↓reduceIte,vcPost,vcStd,Nat.reduceEqDiff,reduceCtorEq,Nat.reduceAdd,Nat.reduceLeDiff,Int.reduceLT,Int.reduceLE,↓u_setN]
 refine AllocQ.i0 fun i hi => ?_
 simp only [↓vcPre,↓z0,↓reduceIte,vcPost,vcStd,Nat.reduceEqDiff,reduceCtorEq,Nat.reduceAdd,Nat.reduceLeDiff,Int.reduceLT,Int.reduceLE,↓u_setN]
 refine AllocQ.i1 fun j hj1 hj2 hj => ?_
 have hx:∀ s:Store,Rd 1 s (M.map cB) (.sl 1 (M.map cB)):=fun _=>Rd.sl
 have l1:=z5t (hx ((σ.set i (.box [.int .i64 p,.int .i64 q,.sl 1 (M.map cB)])).set j (.box [.int .i64 p,.int .i64 q,.sl 1 (M.map cB)]))) (Store.sub_refl _)
 simp only [hj1,hj2,l1,zdj,zeg,↓vcPre,↓z0,↓reduceIte,vcPost,vcStd,Nat.reduceEqDiff,reduceCtorEq,Nat.reduceAdd,Nat.reduceLeDiff,Int.reduceLT,Int.reduceLE,↓u_setN]
 exact zo hi hj hj1
theorem z0l (inner:Bool):∀ (f:Nat) (b:List Int) (a:At) (S ty:List Int) (a':At) (ty':List Int),decL inner f b a S ty = .ok (a',ty')→U8s b→b.length≤1000000→a.ok→a'.ok∧ty'.length≤ty.length+b.length
 | _,[],a,_,ty,a',ty',h,_,_,ha=>by
   simp only [decL] at h;cases h;exact ⟨ha,by omega⟩
 | 0,_::_,_,_,_,_,_,h,_,_,_=>by simp only [decL] at h;cases h
 | f+1,x::r,a,S,ty,a',ty',h,hu,hb,ha=>by
   simp only [decL] at h
   cases hc:chunk (x::r) with
   | none=>rw [hc] at h;cases h
   | some c =>
     rw [hc] at h
     simp only at h
     have hl:=xw hc
     have cu:=qp hu hc
     split at h
     ·cases h
     ·split at h
      ·have:=z0l inner f c.rest a _ _ _ _ h cu.2.1 (by omega) ha
       exact ⟨this.1,by omega⟩
      ·cases hs:stepA c a with
       | error n=>rw [hs] at h;cases h
       | ok a2 =>
         rw [hs] at h
         have:=z0l inner f c.rest a2 _ _ _ _ h cu.2.1 (by omega) (wn hs ha (by omega))
         refine ⟨this.1,?_⟩
         have h2:=this.2
         simp only [List.length_append,List.length_singleton] at h2
         omega
theorem z5u (inner:Bool) {B:List Int} (hu:U8s B) (hB:B.length≤1000000):∃ (A:At) (T:List Int) (p q:Int) (M:List Int),A.ok∧T.length≤1000000∧outD (decA inner B) = .tup [.agg A.c,.sl 1 (T.map cI),.agg [.int .i64 p,.int .i64 q,.sl 1 (M.map cB)]]:=by
 unfold decA
 cases h:decL inner B.length B zeroAt [] [] with
 | error n=>exact ⟨zeroAt,[],3,n.1,n.2,wz,by simp,rfl⟩
 | ok x =>
   obtain ⟨a,ty⟩:=x
   have:=z0l inner _ _ _ _ _ _ _ h hu hB wz
   exact ⟨canonA a,ty.mergeSort leI,0,0,[],uq this.1,by have:=this.2;simp only [List.length_mergeSort];simp at this;omega,rfl⟩
set_option maxHeartbeats 1000000 in
theorem s15 {σ:Store} {B:List Int} {v:AV} (hr:Rd 1 σ (B.map cB) v) (hB:B.length≤1000000) (hu:U8s B):ACalls Tryz.prog 15 [v] σ (fun r s=>s=σ∧r = .bool true):=by
 refine zi Tst.F15 (by simp [Tst.F15,Fn.mkX]) ?_
 simp only [Tst.F15,Fn.mkX,Tst.b15]
 rw [show [AV.int .i64 0,.nils,.int .u32 0,.bool false,.int .u32 0,.bool false,.int .u32 0,.bool false,.nils]=zC from rfl,show [AV.int .i64 0,.int .i64 0,.nils]=zN from rfl]
 simp only [↓vcPre,↓z0,↓reduceIte,vcPost,vcStd,Nat.reduceEqDiff,reduceCtorEq,Nat.reduceAdd,Nat.reduceLeDiff,Int.reduceLT,Int.reduceLE,↓u_setN]
 refine AllocQ.i0 fun p hp => ?_
 simp only [↓vcPre,↓z0,↓reduceIte,vcPost,vcStd,Nat.reduceEqDiff,reduceCtorEq,Nat.reduceAdd,Nat.reduceLeDiff,Int.reduceLT,Int.reduceLE,↓u_setN]
 have hs0:=Store.sub_set σ p (.arr 1 [[.bool false],[.bool true]]) hp
 refine LoopQ.inv (S:=Nat×Store) (fun w=>[(0,v),(11,.os p 1 0 2),(12,.int .i64 2),(13,.int .i64 (w.1:Int))]) (fun w=>w.2) (fun w=>w.1≤2∧Store.sub σ w.2∧w.2 p=some (.arr 1 [[.bool false],[.bool true]])) (fun w=>3 - w.1) (0,σ.set p (.arr 1 [[.bool false],[.bool true]])) rfl (Store.sub_refl _) ⟨by simp,hs0,Store.set_same _ _ _⟩ ?_
 rintro ⟨k,s⟩ ⟨m1,m2,m3⟩
 simp only at m1 m2 m3
 simp only [↓vcPre,↓z0,↓reduceIte,vcPost,vcStd,Nat.reduceEqDiff,reduceCtorEq,Nat.reduceAdd,Nat.reduceLeDiff,Int.reduceLT,Int.reduceLE,↓u_setN]
 refine ⟨fun c1 => ?_,fun c1=>EndQ.to σ _ rfl m2 ⟨rfl,rfl⟩⟩
 have hk:k=0∨k=1:=by omega
 have hr':=hr.mono m2
 obtain ⟨bo,hbo⟩:∃ bo,bo=decide (k=1):=⟨_,rfl⟩
 obtain ⟨A,Ty,p1,p2,M,hA,hT,ho⟩:=z5u bo hu hB
 have D1:=s28 hr' hB hu bo
 have D2:=fun t (h:Store.sub s t)=>s42 (hr'.mono h) hB hu bo
 rw [ho] at D1
 simp only [ho] at D2
 have e9:∀ x:At,x.c.length=9:=fun _=>rfl
 have t9:∀ x:At,List.take 9 x.c=x.c:=fun _=>rfl
 have spZ:∀ x:At,splice 0 x.c zC=some x.c:=fun _=>rfl
 have szn:∀ x y z:AV,splice 0 [x,y,z] zN=some [x,y,z]:=fun _ _ _=>rfl
 have tkb:∀ b:Bool,List.take 1 [AV.bool b]=[AV.bool b]:=fun _=>rfl
 have d01:decide ((0:Nat)=1)=false:=rfl
 have d11:decide ((1:Nat)=1)=true:=rfl
 rcases hk with rfl | rfl
 ·rw [d01] at hbo
  subst hbo
  refine ⟨by decide,?_⟩
  simp only [m3,↓vcPre,↓z0,↓reduceIte,vcPost,vcStd,Nat.reduceEqDiff,reduceCtorEq,Nat.reduceAdd,Nat.reduceLeDiff,Int.reduceLT,Int.reduceLE,↓u_setN]
  refine ⟨by decide,by decide,?_⟩
  simp only [List.getElem_cons_zero,tkb,↓vcPre,↓z0,↓reduceIte,vcPost,vcStd,Nat.reduceEqDiff,reduceCtorEq,Nat.reduceAdd,Nat.reduceLeDiff,Int.reduceLT,Int.reduceLE,↓u_setN]
  refine D1.Q ?_
  rintro r t ⟨rfl,rfl⟩
  simp only [↓vcPre,↓z0,↓reduceIte,vcPost,vcStd,Nat.reduceEqDiff,reduceCtorEq,Nat.reduceAdd,Nat.reduceLeDiff,Int.reduceLT,Int.reduceLE,↓u_setN]
  refine AllocQ.i0 fun a1 ha1 => ?_
  simp only [↓vcPre,↓z0,↓reduceIte,vcPost,vcStd,Nat.reduceEqDiff,reduceCtorEq,Nat.reduceAdd,Nat.reduceLeDiff,Int.reduceLT,Int.reduceLE,↓u_setN]
  refine AllocQ.i1 fun a2 h21 h12 ha2 => ?_
  simp only [h21,h12,e9,spZ,szn,↓vcPre,↓z0,↓reduceIte,vcPost,vcStd,Nat.reduceEqDiff,reduceCtorEq,Nat.reduceAdd,Nat.reduceLeDiff,Int.reduceLT,Int.reduceLE,↓u_setN]
  have sU:Store.sub t ((((t.set a1 (.box zC)).set a2 (.box zN)).set a1 (.box A.c)).set a2 (.box [.int .i64 p1,.int .i64 p2,.sl 1 (M.map cB)])):=za (za (zo ha1 ha2 h21) ha1) ha2
  have U1:((((t.set a1 (.box zC)).set a2 (.box zN)).set a1 (.box A.c)).set a2 (.box [.int .i64 p1,.int .i64 p2,.sl 1 (M.map cB)])) a1=some (.box A.c):=by rw [Store.set_ne _ _ h12,Store.set_same]
  have U2:((((t.set a1 (.box zC)).set a2 (.box zN)).set a1 (.box A.c)).set a2 (.box [.int .i64 p1,.int .i64 p2,.sl 1 (M.map cB)])) a2=some (.box [.int .i64 p1,.int .i64 p2,.sl 1 (M.map cB)]):=Store.set_same _ _ _
  generalize ((((t.set a1 (.box zC)).set a2 (.box zN)).set a1 (.box A.c)).set a2 (.box [.int .i64 p1,.int .i64 p2,.sl 1 (M.map cB)]))=U at sU U1 U2 ⊢
  refine (D2 _ sU).Q ?_
  rintro r t2 ⟨rfl,rfl⟩
  simp only [↓vcPre,↓z0,↓reduceIte,vcPost,vcStd,Nat.reduceEqDiff,reduceCtorEq,Nat.reduceAdd,Nat.reduceLeDiff,Int.reduceLT,Int.reduceLE,↓u_setN]
  refine AllocQ.i0 fun b1 hb1 => ?_
  simp only [↓vcPre,↓z0,↓reduceIte,vcPost,vcStd,Nat.reduceEqDiff,reduceCtorEq,Nat.reduceAdd,Nat.reduceLeDiff,Int.reduceLT,Int.reduceLE,↓u_setN]
  refine AllocQ.i1 fun b2 g21 g12 hb2 => ?_
  simp only [g21,g12,e9,spZ,szn,↓vcPre,↓z0,↓reduceIte,vcPost,vcStd,Nat.reduceEqDiff,reduceCtorEq,Nat.reduceAdd,Nat.reduceLeDiff,Int.reduceLT,Int.reduceLE,↓u_setN]
  have sW:Store.sub t2 ((((t2.set b1 (.box zC)).set b2 (.box zN)).set b1 (.box A.c)).set b2 (.box [.int .i64 p1,.int .i64 p2,.sl 1 (M.map cB)])):=za (za (zo hb1 hb2 g21) hb1) hb2
  have W1:((((t2.set b1 (.box zC)).set b2 (.box zN)).set b1 (.box A.c)).set b2 (.box [.int .i64 p1,.int .i64 p2,.sl 1 (M.map cB)])) b1=some (.box A.c):=by rw [Store.set_ne _ _ g12,Store.set_same]
  have W2:((((t2.set b1 (.box zC)).set b2 (.box zN)).set b1 (.box A.c)).set b2 (.box [.int .i64 p1,.int .i64 p2,.sl 1 (M.map cB)])) b2=some (.box [.int .i64 p1,.int .i64 p2,.sl 1 (M.map cB)]):=Store.set_same _ _ _
  generalize ((((t2.set b1 (.box zC)).set b2 (.box zN)).set b1 (.box A.c)).set b2 (.box [.int .i64 p1,.int .i64 p2,.sl 1 (M.map cB)]))=W at sW W1 W2 ⊢
  have W3:=sW _ _ U1
  have W4:=sW _ _ U2
  simp only [W1,W3,e9,t9,Nat.le_refl,↓vcPre,↓z0,↓reduceIte,vcPost,vcStd,Nat.reduceEqDiff,reduceCtorEq,Nat.reduceAdd,Nat.reduceLeDiff,Int.reduceLT,Int.reduceLE,↓u_setN]
  refine (c26 A A hA hA).Q ?_
  rw [show decide (A=A)=true by simp]
  simp only [↓vcPre,↓z0,↓reduceIte,vcPost,vcStd,Nat.reduceEqDiff,reduceCtorEq,Nat.reduceAdd,Nat.reduceLeDiff,Int.reduceLT,Int.reduceLE,↓u_setN]
  refine (c30 Ty hT).Q ?_
  simp only [W2,W4,↓vcPre,↓z0,↓reduceIte,vcPost,vcStd,Nat.reduceEqDiff,reduceCtorEq,Nat.reduceAdd,Nat.reduceLeDiff,Int.reduceLT,Int.reduceLE,↓u_setN]
  refine (c43 p1 p2 M).Q ?_
  simp only [↓vcPre,↓z0,↓reduceIte,vcPost,vcStd,Nat.reduceEqDiff,reduceCtorEq,Nat.reduceAdd,Nat.reduceLeDiff,Int.reduceLT,Int.reduceLE,↓u_setN]
  refine NextQ.to (1,W) rfl (Store.sub_refl _) (by simp only;omega) ⟨by simp only;omega,Store.sub_trans m2 (Store.sub_trans sU sW),(Store.sub_trans sU sW) _ _ m3⟩
 ·rw [d11] at hbo
  subst hbo
  refine ⟨by decide,?_⟩
  simp only [m3,↓vcPre,↓z0,↓reduceIte,vcPost,vcStd,Nat.reduceEqDiff,reduceCtorEq,Nat.reduceAdd,Nat.reduceLeDiff,Int.reduceLT,Int.reduceLE,↓u_setN]
  refine ⟨by decide,by decide,?_⟩
  simp only [List.getElem_cons_succ,List.getElem_cons_zero,tkb,↓vcPre,↓z0,↓reduceIte,vcPost,vcStd,Nat.reduceEqDiff,reduceCtorEq,Nat.reduceAdd,Nat.reduceLeDiff,Int.reduceLT,Int.reduceLE,↓u_setN]
  refine D1.Q ?_
  rintro r t ⟨rfl,rfl⟩
  simp only [↓vcPre,↓z0,↓reduceIte,vcPost,vcStd,Nat.reduceEqDiff,reduceCtorEq,Nat.reduceAdd,Nat.reduceLeDiff,Int.reduceLT,Int.reduceLE,↓u_setN]
  refine AllocQ.i0 fun a1 ha1 => ?_
  simp only [↓vcPre,↓z0,↓reduceIte,vcPost,vcStd,Nat.reduceEqDiff,reduceCtorEq,Nat.reduceAdd,Nat.reduceLeDiff,Int.reduceLT,Int.reduceLE,↓u_setN]
  refine AllocQ.i1 fun a2 h21 h12 ha2 => ?_
  simp only [h21,h12,e9,spZ,szn,↓vcPre,↓z0,↓reduceIte,vcPost,vcStd,Nat.reduceEqDiff,reduceCtorEq,Nat.reduceAdd,Nat.reduceLeDiff,Int.reduceLT,Int.reduceLE,↓u_setN]
  have sU:Store.sub t ((((t.set a1 (.box zC)).set a2 (.box zN)).set a1 (.box A.c)).set a2 (.box [.int .i64 p1,.int .i64 p2,.sl 1 (M.map cB)])):=za (za (zo ha1 ha2 h21) ha1) ha2
  have U1:((((t.set a1 (.box zC)).set a2 (.box zN)).set a1 (.box A.c)).set a2 (.box [.int .i64 p1,.int .i64 p2,.sl 1 (M.map cB)])) a1=some (.box A.c):=by rw [Store.set_ne _ _ h12,Store.set_same]
  have U2:((((t.set a1 (.box zC)).set a2 (.box zN)).set a1 (.box A.c)).set a2 (.box [.int .i64 p1,.int .i64 p2,.sl 1 (M.map cB)])) a2=some (.box [.int .i64 p1,.int .i64 p2,.sl 1 (M.map cB)]):=Store.set_same _ _ _
  generalize ((((t.set a1 (.box zC)).set a2 (.box zN)).set a1 (.box A.c)).set a2 (.box [.int .i64 p1,.int .i64 p2,.sl 1 (M.map cB)]))=U at sU U1 U2 ⊢
  refine (D2 _ sU).Q ?_
  rintro r t2 ⟨rfl,rfl⟩
  simp only [↓vcPre,↓z0,↓reduceIte,vcPost,vcStd,Nat.reduceEqDiff,reduceCtorEq,Nat.reduceAdd,Nat.reduceLeDiff,Int.reduceLT,Int.reduceLE,↓u_setN]
  refine AllocQ.i0 fun b1 hb1 => ?_
  simp only [↓vcPre,↓z0,↓reduceIte,vcPost,vcStd,Nat.reduceEqDiff,reduceCtorEq,Nat.reduceAdd,Nat.reduceLeDiff,Int.reduceLT,Int.reduceLE,↓u_setN]
  refine AllocQ.i1 fun b2 g21 g12 hb2 => ?_
  simp only [g21,g12,e9,spZ,szn,↓vcPre,↓z0,↓reduceIte,vcPost,vcStd,Nat.reduceEqDiff,reduceCtorEq,Nat.reduceAdd,Nat.reduceLeDiff,Int.reduceLT,Int.reduceLE,↓u_setN]
  have sW:Store.sub t2 ((((t2.set b1 (.box zC)).set b2 (.box zN)).set b1 (.box A.c)).set b2 (.box [.int .i64 p1,.int .i64 p2,.sl 1 (M.map cB)])):=za (za (zo hb1 hb2 g21) hb1) hb2
  have W1:((((t2.set b1 (.box zC)).set b2 (.box zN)).set b1 (.box A.c)).set b2 (.box [.int .i64 p1,.int .i64 p2,.sl 1 (M.map cB)])) b1=some (.box A.c):=by rw [Store.set_ne _ _ g12,Store.set_same]
  have W2:((((t2.set b1 (.box zC)).set b2 (.box zN)).set b1 (.box A.c)).set b2 (.box [.int .i64 p1,.int .i64 p2,.sl 1 (M.map cB)])) b2=some (.box [.int .i64 p1,.int .i64 p2,.sl 1 (M.map cB)]):=Store.set_same _ _ _
  generalize ((((t2.set b1 (.box zC)).set b2 (.box zN)).set b1 (.box A.c)).set b2 (.box [.int .i64 p1,.int .i64 p2,.sl 1 (M.map cB)]))=W at sW W1 W2 ⊢
  have W3:=sW _ _ U1
  have W4:=sW _ _ U2
  simp only [W1,W3,e9,t9,Nat.le_refl,↓vcPre,↓z0,↓reduceIte,vcPost,vcStd,Nat.reduceEqDiff,reduceCtorEq,Nat.reduceAdd,Nat.reduceLeDiff,Int.reduceLT,Int.reduceLE,↓u_setN]
  refine (c26 A A hA hA).Q ?_
  rw [show decide (A=A)=true by simp]
  simp only [↓vcPre,↓z0,↓reduceIte,vcPost,vcStd,Nat.reduceEqDiff,reduceCtorEq,Nat.reduceAdd,Nat.reduceLeDiff,Int.reduceLT,Int.reduceLE,↓u_setN]
  refine (c30 Ty hT).Q ?_
  simp only [W2,W4,↓vcPre,↓z0,↓reduceIte,vcPost,vcStd,Nat.reduceEqDiff,reduceCtorEq,Nat.reduceAdd,Nat.reduceLeDiff,Int.reduceLT,Int.reduceLE,↓u_setN]
  refine (c43 p1 p2 M).Q ?_
  simp only [↓vcPre,↓z0,↓reduceIte,vcPost,vcStd,Nat.reduceEqDiff,reduceCtorEq,Nat.reduceAdd,Nat.reduceLeDiff,Int.reduceLT,Int.reduceLE,↓u_setN]
  refine NextQ.to (2,W) rfl (Store.sub_refl _) (by simp only;omega) ⟨by simp only;omega,Store.sub_trans m2 (Store.sub_trans sU sW),(Store.sub_trans sU sW) _ _ m3⟩
end Go.Am
namespace Go.Am
open Go.Proofs Go.Sort
theorem k7a:decA false [64,1,1,3] = .error (6,[64,1,1,3]):=by
 have e1:chunk [64,1,1,3]=some ⟨64,1,[3],[64,1,1,3],[]⟩:=by rfl
 have h:decL false 4 [64,1,1,3] zeroAt [] [] = .error (6,[64,1,1,3]):=by
  simp only [decL,e1];rfl
 simp only [decA]
 rw [show ([64,1,1,3]:List Int).length=4 from rfl,h]
theorem k7b:∃ a,decA false [64,1,1,2] = .ok (a,[1])∧a.org=2:=by
 have e1:chunk [64,1,1,2]=some ⟨64,1,[2],[64,1,1,2],[]⟩:=by rfl
 have h:decL false 4 [64,1,1,2] zeroAt [] [] = .ok ({ zeroAt with org:=2 },[1]):=by
  simp only [decL,e1];rfl
 refine ⟨canonA { zeroAt with org:=2 },?_,rfl⟩
 simp only [decA]
 rw [show ([64,1,1,2]:List Int).length=4 from rfl,h]
 simp
set_option maxHeartbeats 1000000 in
theorem c17:Pur Tryz.prog 17 [] (.bool true):=by
 refine zq Tst.F17 (by simp [Tst.F17,Fn.mkX]) fun σ => ?_
 simp only [Tst.F17,Fn.mkX,Tst.b17]
 rw [show [AV.int .i64 0,.nils,.int .u32 0,.bool false,.int .u32 0,.bool false,.int .u32 0,.bool false,.nils]=zC from rfl,show [AV.int .i64 0,.int .i64 0,.nils]=zN from rfl]
 obtain ⟨b2,hb2,hbo⟩:=k7b
 have e9:∀ x:At,x.c.length=9:=fun _=>rfl
 have spZ:∀ x:At,splice 0 x.c zC=some x.c:=fun _=>rfl
 have szn:∀ x y z:AV,splice 0 [x,y,z] zN=some [x,y,z]:=fun _ _ _=>rfl
 simp only [z24,↓vcPre,↓z0,↓reduceIte,vcPost,vcStd,Nat.reduceEqDiff,reduceCtorEq,Nat.reduceAdd,Nat.reduceLeDiff,Int.reduceLT,Int.reduceLE,↓u_setN]
 refine AllocQ.i0 fun q1 hq1 => ?_
 simp only [↓vcPre,↓z0,↓reduceIte,vcPost,vcStd,Nat.reduceEqDiff,reduceCtorEq,Nat.reduceAdd,Nat.reduceLeDiff,Int.reduceLT,Int.reduceLE,↓u_setN]
 have sT:=Store.sub_set σ q1 (.arr 1 [[.int .u8 64],[.int .u8 1],[.int .u8 1],[.int .u8 3]]) hq1
 have T1:(σ.set q1 (.arr 1 [[.int .u8 64],[.int .u8 1],[.int .u8 1],[.int .u8 3]])) q1=some (.arr 1 (([64,1,1,3]:List Int).map cB)):=Store.set_same _ _ _
 generalize σ.set q1 (.arr 1 [[.int .u8 64],[.int .u8 1],[.int .u8 1],[.int .u8 3]])=T at sT T1 ⊢
 have u3:U8s [64,1,1,3]:=by intro x hx;simp only [List.mem_cons,List.not_mem_nil,or_false] at hx;omega
 have u2:U8s [64,1,1,2]:=by intro x hx;simp only [List.mem_cons,List.not_mem_nil,or_false] at hx;omega
 have D1:=s28 (Rd.os T1) (by simp) u3 false
 rw [k7a] at D1
 refine D1.Q ?_
 rintro r t ⟨rfl,rfl⟩
 simp only [outD]
 simp only [↓vcPre,↓z0,↓reduceIte,vcPost,vcStd,Nat.reduceEqDiff,reduceCtorEq,Nat.reduceAdd,Nat.reduceLeDiff,Int.reduceLT,Int.reduceLE,↓u_setN]
 refine AllocQ.i0 fun p1 hp1 => ?_
 simp only [↓vcPre,↓z0,↓reduceIte,vcPost,vcStd,Nat.reduceEqDiff,reduceCtorEq,Nat.reduceAdd,Nat.reduceLeDiff,Int.reduceLT,Int.reduceLE,↓u_setN]
 refine AllocQ.i1 fun p3 h31 h13 hp3 => ?_
 simp only [h31,h13,e9,spZ,szn,↓vcPre,↓z0,↓reduceIte,vcPost,vcStd,Nat.reduceEqDiff,reduceCtorEq,Nat.reduceAdd,Nat.reduceLeDiff,Int.reduceLT,Int.reduceLE,↓u_setN]
 have sU:Store.sub t ((((t.set p1 (.box zC)).set p3 (.box zN)).set p1 (.box zeroAt.c)).set p3 (.box [.int .i64 3,.int .i64 6,.sl 1 (([64,1,1,3]:List Int).map cB)])):=za (za (zo hp1 hp3 h31) hp1) hp3
 have U3:((((t.set p1 (.box zC)).set p3 (.box zN)).set p1 (.box zeroAt.c)).set p3 (.box [.int .i64 3,.int .i64 6,.sl 1 (([64,1,1,3]:List Int).map cB)])) p3=some (.box [.int .i64 3,.int .i64 6,.sl 1 (([64,1,1,3]:List Int).map cB)]):=Store.set_same _ _ _
 generalize ((((t.set p1 (.box zC)).set p3 (.box zN)).set p1 (.box zeroAt.c)).set p3 (.box [.int .i64 3,.int .i64 6,.sl 1 (([64,1,1,3]:List Int).map cB)]))=U at sU U3 ⊢
 simp only [z24,↓vcPre,↓z0,↓reduceIte,vcPost,vcStd,Nat.reduceEqDiff,reduceCtorEq,Nat.reduceAdd,Nat.reduceLeDiff,Int.reduceLT,Int.reduceLE,↓u_setN]
 refine AllocQ.i0 fun q2 hq2 => ?_
 simp only [↓vcPre,↓z0,↓reduceIte,vcPost,vcStd,Nat.reduceEqDiff,reduceCtorEq,Nat.reduceAdd,Nat.reduceLeDiff,Int.reduceLT,Int.reduceLE,↓u_setN]
 have sV:=Store.sub_set U q2 (.arr 1 [[.int .u8 64],[.int .u8 1],[.int .u8 1],[.int .u8 2]]) hq2
 have V1:(U.set q2 (.arr 1 [[.int .u8 64],[.int .u8 1],[.int .u8 1],[.int .u8 2]])) q2=some (.arr 1 (([64,1,1,2]:List Int).map cB)):=Store.set_same _ _ _
 generalize U.set q2 (.arr 1 [[.int .u8 64],[.int .u8 1],[.int .u8 1],[.int .u8 2]])=V at sV V1 ⊢
 have D2:=s28 (Rd.os V1) (by simp) u2 false
 rw [hb2] at D2
 refine D2.Q ?_
 rintro r w ⟨rfl,rfl⟩
 simp only [outD]
 simp only [↓vcPre,↓z0,↓reduceIte,vcPost,vcStd,Nat.reduceEqDiff,reduceCtorEq,Nat.reduceAdd,Nat.reduceLeDiff,Int.reduceLT,Int.reduceLE,↓u_setN]
 refine AllocQ.i0 fun p4 hp4 => ?_
 simp only [↓vcPre,↓z0,↓reduceIte,vcPost,vcStd,Nat.reduceEqDiff,reduceCtorEq,Nat.reduceAdd,Nat.reduceLeDiff,Int.reduceLT,Int.reduceLE,↓u_setN]
 refine AllocQ.i1 fun p6 h64 h46 hp6 => ?_
 simp only [h64,h46,e9,spZ,szn,↓vcPre,↓z0,↓reduceIte,vcPost,vcStd,Nat.reduceEqDiff,reduceCtorEq,Nat.reduceAdd,Nat.reduceLeDiff,Int.reduceLT,Int.reduceLE,↓u_setN]
 have sW:Store.sub w ((((w.set p4 (.box zC)).set p6 (.box zN)).set p4 (.box b2.c)).set p6 (.box [.int .i64 0,.int .i64 0,.sl 1 []])):=za (za (zo hp4 hp6 h64) hp4) hp6
 have W6:((((w.set p4 (.box zC)).set p6 (.box zN)).set p4 (.box b2.c)).set p6 (.box [.int .i64 0,.int .i64 0,.sl 1 []])) p6=some (.box [.int .i64 0,.int .i64 0,.sl 1 []]):=Store.set_same _ _ _
 generalize ((((w.set p4 (.box zC)).set p6 (.box zN)).set p4 (.box b2.c)).set p6 (.box [.int .i64 0,.int .i64 0,.sl 1 []]))=W at sW W6 ⊢
 have W3:=sW _ _ (sV _ _ U3)
 have hσW:Store.sub σ W:=Store.sub_trans sT (Store.sub_trans sU (Store.sub_trans sV sW))
 have hx:∀ s:Store,Rd 1 s (([64,1,1,3]:List Int).map cB) (.sl 1 (([64,1,1,3]:List Int).map cB)):=fun _=>Rd.sl
 have l1:=z5t (hx W) (Store.sub_refl _)
 have hby:(byL [64,1,1,3]).toArray = #[64,1,1,3]:=rfl
 rw [hby] at l1
 have eqq:pv (.eqs false) [.str ⟨#[64,1,1,3]⟩,.str ⟨#[64,1,1,3]⟩]=some (.bool true):=by simp [pv,pEqs]
 have tk:List.take 1 b2.c=[.int .i64 2]:=by show [AV.int .i64 b2.org]=_;rw [hbo]
 simp only [W3,l1,eqq,tk,↓vcPre,↓z0,↓reduceIte,vcPost,vcStd,Nat.reduceEqDiff,reduceCtorEq,Nat.reduceAdd,Nat.reduceLeDiff,Int.reduceLT,Int.reduceLE,↓u_setN]
 refine AllocQ.i0 fun d hd => ?_
 simp only [↓vcPre,↓z0,↓reduceIte,vcPost,vcStd,Nat.reduceEqDiff,reduceCtorEq,Nat.reduceAdd,Nat.reduceLeDiff,Int.reduceLT,Int.reduceLE,↓u_setN]
 have hD:=Store.sub_set W d (.arr 1 [[.int .i64 1]]) hd
 have Dd:(W.set d (.arr 1 [[.int .i64 1]])) d=some (.arr 1 [[.int .i64 1]]):=Store.set_same _ _ _
 have D6:=hD _ _ W6
 have hsame:ACalls Tryz.prog 30 [.sl 1 (([1]:List Int).map cI),.os d 1 0 1] (W.set d (.arr 1 [[.int .i64 1]])) (fun r s=>r = .bool true∧Store.sub W s):=by
  refine ACalls.weakArgs (c30 [1] (by simp) W).1 (WeakL.freeze 1 rfl Dd (by simp) (WeakL.pure ?_))
  refine (c30 [1] (by simp) _).mono fun r s ⟨x,y⟩=>⟨by first | exact y | exact x,by subst_vars;exact sub_del hD hd⟩
 refine hsame.Q ?_
 rintro r y ⟨rfl,hy⟩
 have Y6:=hy _ _ W6
 simp only [Y6,↓vcPre,↓z0,↓reduceIte,vcPost,vcStd,Nat.reduceEqDiff,reduceCtorEq,Nat.reduceAdd,Nat.reduceLeDiff,Int.reduceLT,Int.reduceLE,↓u_setN]
 refine (c31 16777216).Q ?_
 rw [show decide (goodN 16777216)=true by decide]
 simp only [↓vcPre,↓z0,↓reduceIte,vcPost,vcStd,Nat.reduceEqDiff,reduceCtorEq,Nat.reduceAdd,Nat.reduceLeDiff,Int.reduceLT,Int.reduceLE,↓u_setN]
 refine (c31 2130706433).Q ?_
 rw [show decide (goodN 2130706433)=false by decide]
 simp only [↓vcPre,↓z0,↓reduceIte,vcPost,vcStd,Nat.reduceEqDiff,reduceCtorEq,Nat.reduceAdd,Nat.reduceLeDiff,Int.reduceLT,Int.reduceLE,↓u_setN]
 exact Store.sub_trans hσW hy
end Go.Am
namespace Go.Am
open Go.Proofs Go.Sort
theorem Own.addG {esz e2:Nat} {τ s s':Store} {L M:List (List AV)} {v w:AV} (h:Own esz τ L v s) (hτ:Store.sub τ s) (hs:Store.sub s s') (hw:Own e2 s M w s'):∃ τ',Store.sub τ τ'∧Store.sub τ' s'∧Own esz τ' L v s'∧Rd e2 τ' M w:=by
 rcases hw with ⟨rfl,rfl⟩ | ⟨g,rfl,hg,hh⟩
 ·exact ⟨τ,Store.sub_refl _,Store.sub_trans hτ hs,h.mono hs,Rd.nils⟩
 ·refine ⟨τ.set g (.arr e2 M),Store.sub_set _ _ _ (zl hτ hg),fun j o hj => ?_,?_,Rd.os (Store.set_same _ _ _)⟩
  ·by_cases e:j=g
   ·subst e;rw [Store.set_same] at hj;cases hj;exact hh
   ·rw [Store.set_ne _ _ e] at hj;exact hs _ _ (hτ _ _ hj)
  ·rcases h with h | ⟨k,a,b,c⟩
   ·exact .inl h
   ·have hkg:¬ k=g:=fun e=>by rw [e,hg] at c;cases c
    exact .inr ⟨k,a,by rw [Store.set_ne _ _ hkg];exact b,hs _ _ c⟩
theorem z07 (a:At) (h8:a.cms.length≤100000) {T s:Store} {i:Nat} {L:List Int} {v:AV} (hTi:T i=some (boxC a)) (hs:Store.sub T s) (h:Own 1 T (L.map cB) v s) (hL:L.length≤9000000) {n r:Env→Store→Prop} {x:Nat→Env→Store→Prop}
 (hr:∀ v' s',Store.sub T s'→Own 1 T ((L++(if a.cms=[] then [] else oneA 192 8 (encW a.cms))).map cB) v' s'→r [(2,v')] s'):bwp Tryz.prog Tsj.t11_39 [(1,.ptr i 0),(3,v)] s n r x:=by
 simp only [Tsj.t11_39]
 have hi:=hs _ _ hTi
 simp only [hi,boxC,↓vcPre,↓z0,↓reduceIte,vcPost,vcStd,Nat.reduceEqDiff,reduceCtorEq,Nat.reduceAdd,Nat.reduceLeDiff,Int.reduceLT,Int.reduceLE,↓u_setN]
 have hc:=xd a.cms
 refine ⟨fun c1 => ?_,fun c1 => ?_⟩
 ·obtain ⟨τ1,p1,p2,p3,p4⟩:∃ τ1,Store.sub T τ1∧Store.sub τ1 s∧Own 1 T (L.map cB) v s∧∀ t,Store.sub τ1 t→Own 1 T (L.map cB) v t:=⟨s,hs,Store.sub_refl _,h,fun t ht=>h.mono ht⟩
  refine LoopQ.inv (S:=Nat×AV×Store) (fun q=>[(1,.ptr i 0),(3,v),(4,q.2.1),(5,.int .i64 (q.1:Int))]) (fun q=>q.2.2) (fun q=>q.1≤a.cms.length∧Store.sub s q.2.2∧Own 1 s ((encW (a.cms.take q.1)).map cB) q.2.1 q.2.2) (fun q=>a.cms.length+1 - q.1) (0,.nils,s) rfl (Store.sub_refl _) ⟨by simp only;omega,Store.sub_refl _,by simpa [encW] using Own.nil⟩ ?_
  rintro ⟨k,w,s1⟩ ⟨hk,hs1,ho1⟩
  simp only at hk hs1 ho1
  have hle:=xd (a.cms.take k)
  rw [List.length_take] at hle
  simp only [hs1 _ _ hi,boxC,↓vcPre,↓z0,↓reduceIte,vcPost,vcStd,Nat.reduceEqDiff,reduceCtorEq,Nat.reduceAdd,Nat.reduceLeDiff,Int.reduceLT,Int.reduceLE,↓u_setN]
  refine ⟨fun d1 => ?_,fun d1 => ?_⟩
  ·have ek:IntKind.i64.wrap ((k:Int)+1)=((k+1:Nat):Int):=by rw [zj (by unfold I64;omega)];omega
   refine ⟨d1,by simp [cU],?_⟩
   simp only [cU,↓vcPre,↓z0,↓reduceIte,vcPost,vcStd,Nat.reduceEqDiff,reduceCtorEq,Nat.reduceAdd,Nat.reduceLeDiff,Int.reduceLT,Int.reduceLE,↓u_setN]
   refine (s39 (Rd.own ho1) (by omega) _).Q ?_
   rintro r' s2 ⟨k1,k2⟩
   simp only [↓vcPre,↓z0,↓reduceIte,vcPost,vcStd,Nat.reduceEqDiff,reduceCtorEq,Nat.reduceAdd,Nat.reduceLeDiff,Int.reduceLT,Int.reduceLE,↓u_setN]
   rw [ek]
   refine NextQ.to (k+1,r',s2) rfl (Store.sub_refl _) (by simp only;omega) ⟨by simp only;omega,Store.sub_trans hs1 k1,?_⟩
   simp only
   rw [z0w _ _ d1]
   exact k2.weak hs1
  ·have e:a.cms.take k=a.cms:=List.take_of_length_le (by omega)
   rw [e] at ho1
   obtain ⟨τ',q1,q2,q3,q4⟩:=Own.addG h hs hs1 ho1
   refine (s37 q2 q3 q4 (by omega) (by omega) 192 8 (by decide) (by decide)).Q ?_
   rintro r' s2 ⟨k1,k2⟩
   simp only [↓vcPre,↓z0,↓reduceIte,vcPost,vcStd,Nat.reduceEqDiff,reduceCtorEq,Nat.reduceAdd,Nat.reduceLeDiff,Int.reduceLT,Int.reduceLE,↓u_setN]
   have:=hr r' s2 (Store.sub_trans q1 k1)
   rw [if_neg (fun e=>by rw [e] at c1;simp at c1)] at this
   exact this (k2.weak q1)
 ·have:=hr v s hs
  rw [if_pos (List.length_eq_zero_iff.1 (by omega)),List.append_nil] at this
  exact this h
theorem z08 (a:At) (h8:a.cms.length≤100000) {T s:Store} {i:Nat} {L:List Int} {v:AV} (hTi:T i=some (boxC a)) (hs:Store.sub T s) (h:Own 1 T (L.map cB) v s) (hL:L.length≤8000000) {n r:Env→Store→Prop} {x:Nat→Env→Store→Prop}
 (hr:∀ v' s',Store.sub T s'→Own 1 T ((L++(if a.atm then oneA 64 6 [] else [])++(if a.cms=[] then [] else oneA 192 8 (encW a.cms))).map cB) v' s'→r [(2,v')] s'):bwp Tryz.prog Tsj.t11_35 [(1,.ptr i 0),(3,v)] s n r x:=by
 simp only [Tsj.t11_35]
 have hi:=hs _ _ hTi
 cases g:a.atm
 ·simp only [hi,boxC,g,↓vcPre,↓z0,↓reduceIte,vcPost,vcStd,Nat.reduceEqDiff,reduceCtorEq,Nat.reduceAdd,Nat.reduceLeDiff,Int.reduceLT,Int.reduceLE,↓u_setN]
  refine z07 a h8 hTi hs h (by omega) fun v' s' hs' ho' => ?_
  have:=hr v' s' hs'
  rw [g] at this
  exact this (by simpa using ho')
 ·simp only [hi,boxC,g,↓vcPre,↓z0,↓reduceIte,vcPost,vcStd,Nat.reduceEqDiff,reduceCtorEq,Nat.reduceAdd,Nat.reduceLeDiff,Int.reduceLT,Int.reduceLE,↓u_setN]
  refine (s37 hs h (M:=[]) Rd.nils (by omega) (by simp) 64 6 (by decide) (by decide)).Q ?_
  rintro r' s1 ⟨k1,k2⟩
  simp only [↓vcPre,↓z0,↓reduceIte,vcPost,vcStd,Nat.reduceEqDiff,reduceCtorEq,Nat.reduceAdd,Nat.reduceLeDiff,Int.reduceLT,Int.reduceLE,↓u_setN]
  refine z07 a h8 hTi k1 k2 (by have:=z3c 64 6 [];simp at this ⊢;omega) fun v' s' hs' ho' => ?_
  have:=hr v' s' hs'
  rw [g] at this
  exact this ho'
theorem z09 (a:At) (h8:a.cms.length≤100000) {T s:Store} {i:Nat} {L:List Int} {v:AV} (hTi:T i=some (boxC a)) (hs:Store.sub T s) (h:Own 1 T (L.map cB) v s) (hL:L.length≤7000000) {n r:Env→Store→Prop} {x:Nat→Env→Store→Prop}
 (hr:∀ v' s',Store.sub T s'→Own 1 T ((L++(if a.hp then oneA 64 5 (b4 a.prf) else [])++(if a.atm then oneA 64 6 [] else [])++(if a.cms=[] then [] else oneA 192 8 (encW a.cms))).map cB) v' s'→r [(2,v')] s'):bwp Tryz.prog Tsj.t11_28 [(1,.ptr i 0),(3,v)] s n r x:=by
 simp only [Tsj.t11_28]
 have hi:=hs _ _ hTi
 cases g:a.hp
 ·simp only [hi,boxC,g,↓vcPre,↓z0,↓reduceIte,vcPost,vcStd,Nat.reduceEqDiff,reduceCtorEq,Nat.reduceAdd,Nat.reduceLeDiff,Int.reduceLT,Int.reduceLE,↓u_setN]
  refine z08 a h8 hTi hs h (by omega) fun v' s' hs' ho' => ?_
  have:=hr v' s' hs'
  rw [g] at this
  exact this (by simpa using ho')
 ·have hTi5:=(hs) _ _ hTi
  simp only [hTi5,boxC,g,↓vcPre,↓z0,↓reduceIte,vcPost,vcStd,Nat.reduceEqDiff,reduceCtorEq,Nat.reduceAdd,Nat.reduceLeDiff,Int.reduceLT,Int.reduceLE,↓u_setN]
  refine (s39 (s:=s) (L:=[]) Rd.nils (by simp) a.prf).Q ?_
  rintro r s' ⟨k1,k2⟩
  rw [List.nil_append] at k2
  obtain ⟨τ',q1,q2,q3,q4⟩:=Own.addG h (hs) k1 k2
  simp only [↓vcPre,↓z0,↓reduceIte,vcPost,vcStd,Nat.reduceEqDiff,reduceCtorEq,Nat.reduceAdd,Nat.reduceLeDiff,Int.reduceLT,Int.reduceLE,↓u_setN]
  refine (s37 q2 q3 q4 (by omega) (by rw [vl];omega) 64 5 (by decide) (by decide)).Q ?_
  rintro r s1 ⟨h1,k3⟩
  have h1:=Store.sub_trans q1 h1
  have k3:=Own.weak k3 q1
  simp only [↓vcPre,↓z0,↓reduceIte,vcPost,vcStd,Nat.reduceEqDiff,reduceCtorEq,Nat.reduceAdd,Nat.reduceLeDiff,Int.reduceLT,Int.reduceLE,↓u_setN]
  refine z08 a h8 hTi h1 k3 (by have:=wm 64 5 (b4 a.prf) L;rw [vl] at this;omega) fun v' s' hs' ho' => ?_
  have:=hr v' s' hs'
  rw [g] at this
  exact this ho'
theorem z4h (a:At) (h8:a.cms.length≤100000) {T s:Store} {i:Nat} {L:List Int} {v:AV} (hTi:T i=some (boxC a)) (hs:Store.sub T s) (h:Own 1 T (L.map cB) v s) (hL:L.length≤6000000) {n r:Env→Store→Prop} {x:Nat→Env→Store→Prop}
 (hr:∀ v' s',Store.sub T s'→Own 1 T ((L++(if a.hm then oneA 128 4 (b4 a.med) else [])++(if a.hp then oneA 64 5 (b4 a.prf) else [])++(if a.atm then oneA 64 6 [] else [])++(if a.cms=[] then [] else oneA 192 8 (encW a.cms))).map cB) v' s'→r [(2,v')] s'):bwp Tryz.prog Tsj.t11_21 [(1,.ptr i 0),(3,v)] s n r x:=by
 simp only [Tsj.t11_21]
 have hi:=hs _ _ hTi
 cases g:a.hm
 ·simp only [hi,boxC,g,↓vcPre,↓z0,↓reduceIte,vcPost,vcStd,Nat.reduceEqDiff,reduceCtorEq,Nat.reduceAdd,Nat.reduceLeDiff,Int.reduceLT,Int.reduceLE,↓u_setN]
  refine z09 a h8 hTi hs h (by omega) fun v' s' hs' ho' => ?_
  have:=hr v' s' hs'
  rw [g] at this
  exact this (by simpa using ho')
 ·have hTi4:=(hs) _ _ hTi
  simp only [hTi4,boxC,g,↓vcPre,↓z0,↓reduceIte,vcPost,vcStd,Nat.reduceEqDiff,reduceCtorEq,Nat.reduceAdd,Nat.reduceLeDiff,Int.reduceLT,Int.reduceLE,↓u_setN]
  refine (s39 (s:=s) (L:=[]) Rd.nils (by simp) a.med).Q ?_
  rintro r s' ⟨k1,k2⟩
  rw [List.nil_append] at k2
  obtain ⟨τ',q1,q2,q3,q4⟩:=Own.addG h (hs) k1 k2
  simp only [↓vcPre,↓z0,↓reduceIte,vcPost,vcStd,Nat.reduceEqDiff,reduceCtorEq,Nat.reduceAdd,Nat.reduceLeDiff,Int.reduceLT,Int.reduceLE,↓u_setN]
  refine (s37 q2 q3 q4 (by omega) (by rw [vl];omega) 128 4 (by decide) (by decide)).Q ?_
  rintro r s1 ⟨h1,k3⟩
  have h1:=Store.sub_trans q1 h1
  have k3:=Own.weak k3 q1
  simp only [↓vcPre,↓z0,↓reduceIte,vcPost,vcStd,Nat.reduceEqDiff,reduceCtorEq,Nat.reduceAdd,Nat.reduceLeDiff,Int.reduceLT,Int.reduceLE,↓u_setN]
  refine z09 a h8 hTi h1 k3 (by have:=wm 128 4 (b4 a.med) L;rw [vl] at this;omega) fun v' s' hs' ho' => ?_
  have:=hr v' s' hs'
  rw [g] at this
  exact this ho'
def encOk (a:At):Prop:=a.path.length≤1000∧(∀ s ∈ a.path,s.ls.length≤1000)∧a.cms.length≤1000
theorem z2r:∀ (m:List Seg),(∀ s ∈ m,s.ls.length≤1000)→(encPath m).length≤4002*m.length:=by
 intro m
 induction m with
 | nil=>intro _;simp [encPath]
 | cons s r ih =>
   intro h
   have h1:=ih fun x hx=>h x (by simp [hx])
   have h2:=h s (by simp)
   have h3:=xd s.ls
   simp only [encPath,List.flatMap_cons,List.length_append,encSeg,List.length_cons,List.length_nil] at *
   omega
theorem s11 (a:At) (ha:encOk a) (σ:Store):ACalls Tryz.prog 11 [.agg a.c] σ (fun r s=>Store.sub σ s∧Own 1 σ ((encA a).map cB) r s):=by
 refine zi Tsj.F11 (by simp [Tsj.F11,Fn.mkX]) ?_
 simp only [Tsj.F11,Fn.mkX,Tsj.b11]
 have e9:∀ x:At,x.c.length=9:=fun _=>rfl
 obtain ⟨a1,a2,a3⟩:=ha
 have hpl:=z2r a.path a2
 simp only [↓vcPre,↓z0,↓reduceIte,vcPost,vcStd,Nat.reduceEqDiff,reduceCtorEq,Nat.reduceAdd,Nat.reduceLeDiff,Int.reduceLT,Int.reduceLE,↓u_setN]
 refine AllocQ.i0 fun i hi => ?_
 have hsb:=Store.sub_set σ i (.box a.c) hi
 have hTi:(σ.set i (.box a.c)) i=some (boxC a):=Store.set_same _ _ _
 change bops _ _ _ (σ.set i (.box a.c)) _
 generalize σ.set i (.box a.c)=T at hsb hTi ⊢
 simp only [hTi,boxC,↓vcPre,↓z0,↓reduceIte,vcPost,vcStd,Nat.reduceEqDiff,reduceCtorEq,Nat.reduceAdd,Nat.reduceLeDiff,Int.reduceLT,Int.reduceLE,↓u_setN]
 refine AllocQ.i0 fun b hb => ?_
 simp only [↓vcPre,↓z0,↓reduceIte,vcPost,vcStd,Nat.reduceEqDiff,reduceCtorEq,Nat.reduceAdd,Nat.reduceLeDiff,Int.reduceLT,Int.reduceLE,↓u_setN]
 have hTb:=Store.sub_set T b (.arr 1 [cB (IntKind.u8.wrap a.org)]) hb
 refine (s37 (τ:=T.set b (.arr 1 [cB (IntKind.u8.wrap a.org)])) (L:=[]) (M:=[IntKind.u8.wrap a.org]) (Store.sub_refl _) Own.nil (Rd.os (Store.set_same _ _ _)) (by simp) (by simp) 64 1 (by decide) (by decide)).Q ?_
 rintro r s1 ⟨h1,m1⟩
 have h1:=Store.sub_trans hTb h1
 have m1:=Own.weak m1 hTb
 have l1:=wm 64 1 [IntKind.u8.wrap a.org] []
 simp only [List.length_nil,List.length_cons] at l1
 simp only [h1 _ _ hTi,boxC,↓vcPre,↓z0,↓reduceIte,vcPost,vcStd,Nat.reduceEqDiff,reduceCtorEq,Nat.reduceAdd,Nat.reduceLeDiff,Int.reduceLT,Int.reduceLE,↓u_setN]
 refine (c38 a.path (by omega) a2).Q ?_
 simp only [↓vcPre,↓z0,↓reduceIte,vcPost,vcStd,Nat.reduceEqDiff,reduceCtorEq,Nat.reduceAdd,Nat.reduceLeDiff,Int.reduceLT,Int.reduceLE,↓u_setN]
 refine (s37 h1 m1 (Rd.sl (L:=(encPath a.path).map cB)) (by omega) (by omega) 64 2 (by decide) (by decide)).Q ?_
 rintro r s2 ⟨h2,m2⟩
 have l2:=wm 64 2 (encPath a.path) ([]++oneA 64 1 [IntKind.u8.wrap a.org])
 simp only [↓vcPre,↓z0,↓reduceIte,vcPost,vcStd,Nat.reduceEqDiff,reduceCtorEq,Nat.reduceAdd,Nat.reduceLeDiff,Int.reduceLT,Int.reduceLE,↓u_setN]
 have hTi3:=(h2) _ _ hTi
 simp only [hTi3,boxC,e9,↓vcPre,↓z0,↓reduceIte,vcPost,vcStd,Nat.reduceEqDiff,reduceCtorEq,Nat.reduceAdd,Nat.reduceLeDiff,Int.reduceLT,Int.reduceLE,↓u_setN]
 refine (s39 (s:=s2) (L:=[]) Rd.nils (by simp) a.nxt).Q ?_
 rintro r s' ⟨k1,k2⟩
 rw [List.nil_append] at k2
 obtain ⟨τ',q1,q2,q3,q4⟩:=Own.addG m2 (h2) k1 k2
 simp only [↓vcPre,↓z0,↓reduceIte,vcPost,vcStd,Nat.reduceEqDiff,reduceCtorEq,Nat.reduceAdd,Nat.reduceLeDiff,Int.reduceLT,Int.reduceLE,↓u_setN]
 refine (s37 q2 q3 q4 (by omega) (by rw [vl];omega) 64 3 (by decide) (by decide)).Q ?_
 rintro r s3 ⟨h1,k3⟩
 have h1:=Store.sub_trans q1 h1
 have k3:=Own.weak k3 q1
 have l3:=wm 64 3 (b4 a.nxt) ([]++oneA 64 1 [IntKind.u8.wrap a.org]++oneA 64 2 (encPath a.path))
 rw [vl] at l3
 simp only [↓vcPre,↓z0,↓reduceIte,vcPost,vcStd,Nat.reduceEqDiff,reduceCtorEq,Nat.reduceAdd,Nat.reduceLeDiff,Int.reduceLT,Int.reduceLE,↓u_setN]
 refine z4h a (by omega) hTi h1 k3 (by omega) fun v' s' hs' ho' => ?_
 refine EndQ.to s' _ rfl (Store.sub_refl _) ⟨Store.sub_trans hsb hs',?_⟩
 have:=ho'.weak hsb
 simpa [encA,u8w] using this
end Go.Am
namespace Go.Am
open Go.Proofs Go.Sort
theorem c16 (n lo hi:Int) (h1:I64 n) (h2:0≤lo) (h3:lo≤hi) (h4:hi<4294967296):Pur Tryz.prog 16 [.int .i64 n,.int .i64 lo,.int .i64 hi] (.int .i64 (lo+(n % (hi - lo+1)))):=by
 refine zq Tst.F16 (by simp [Tst.F16,Fn.mkX]) fun σ => ?_
 simp only [Tst.F16,Fn.mkX,Tst.b16]
 simp only [↓vcPre,↓z0,↓reduceIte,vcPost,vcStd,Nat.reduceEqDiff,reduceCtorEq,Nat.reduceAdd,Nat.reduceLeDiff,Int.reduceLT,Int.reduceLE,↓u_setN]
 have w:∀ {x:Int},-9223372036854775808≤x→x≤9223372036854775807→IntKind.i64.wrap x=x:=fun a b=>zj ⟨a,b⟩
 rw [w (x:=hi - lo) (by omega) (by omega),w (x:=hi - lo+1) (by omega) (by omega)]
 have hm:0<hi - lo+1:=by omega
 generalize hd:hi - lo+1=d at *
 have he:n % d=if n.tmod d<0 then n.tmod d+d else n.tmod d:=by
  rw [Int.tmod_eq_emod]
  have:=Int.emod_nonneg n (b:=d) (by omega)
  have:=Int.emod_lt_of_pos n (b:=d) (by omega)
  split <;> split <;> omega
 have b1:=Int.emod_nonneg n (b:=d) (by omega)
 have b2:=Int.emod_lt_of_pos n (b:=d) (by omega)
 refine ⟨by omega,fun hn => ?_,fun hn => ?_⟩
 ·rw [if_pos hn] at he
  rw [w (x:=n.tmod d+hi) (by omega) (by omega),w (x:=n.tmod d+hi - lo) (by omega) (by omega),w (x:=n.tmod d+hi - lo+1) (by omega) (by omega),w (by omega) (by omega)];omega
 ·rw [if_neg hn] at he
  rw [w (by omega) (by omega)];omega
end Go.Am
namespace Go.Am.Tsm
open Go.Proofs Go.Am.B
def t12_60:BC:=z [m 60 3,f 61 1 1,s 1 61 60] [1,2] (.seq (z [f 62 8 1,l 63 1 62,u 64 .len 63,c 65 .gtr 64 5] [1,2,65] (.cond (.t 65) (.ops [f 66 8 1,l 67 1 66,p 68 (.slice 1 false true) [.t 67,.c (i 5)],f 69 8 1,s 1 69 68] [1,2]) .skip)) (z [⟨some 70,none,.load (.ld 9 true),[.t 1]⟩,g 71 41 [.t 70],s 9 2 71] [2] .ret))
def t12_3:BC:=z [k 3 .nils] [1,2,3] (.seq (z [j 4 0] [1,2,3,4] (.block 0 (.loop [1,2,3,4] (.seq (z [m 18 4,f 19 1 1,l 20 1 19,u 21 .len 20,b 22 .lss 18 21,m 23 22,⟨some 24,some (23,true),.pure (.mov),[.t 4]⟩,⟨some 25,some (23,true),.pure (.bin .lss),[.t 24,.c (i 4)]⟩,⟨some 26,none,.pick,[.t 23,.t 25,.c (.bool false)]⟩] [1,2,3,4,26] (.cond (.t 26) .skip (.exit 0))) (.seq (.block 1 (z [f 29 1 1,l 30 1 29,m 31 4,x 32 2 30 31,⟨some 33,none,.load (.ld 2 true),[.t 32]⟩,⟨some 5,none,.alloc (.alloc [(.int .i64 0),.nils]),[]⟩,s 2 5 33] [1,2,3,4,5] (.seq (z [f 34 1 5,l 35 1 34,u 36 .len 35,c 37 .gtr 36 5] [1,2,3,4,5,37] (.cond (.t 37) (.ops [f 38 1 5,l 39 1 38,p 40 (.slice 1 false true) [.t 39,.c (i 5)],f 41 1 5,s 1 41 40] [1,2,3,4,5]) .skip)) (z [f 42 1 5,l 43 1 42,u 44 .len 43,c 45 .gtr 44 0,m 46 45,⟨some 47,some (46,true),.pure (.fld 0),[.t 5]⟩,⟨some 48,some (46,true),.load (.ld 1 false),[.t 47]⟩,⟨some 49,some (46,true),.pure (.bin .eql),[.t 48,.c (i 1)]⟩,⟨some 50,some (46,true),.pure (.mov),[.t 49]⟩,⟨some 51,some (50,false),.pure (.fld 0),[.t 5]⟩,⟨some 52,some (50,false),.load (.ld 1 false),[.t 51]⟩,⟨some 53,some (50,false),.pure (.bin .eql),[.t 52,.c (i 2)]⟩,⟨some 54,some (46,true),.pick,[.t 50,.c (.bool true),.t 53]⟩,⟨some 55,none,.pick,[.t 46,.t 54,.c (.bool false)]⟩] [1,2,3,4,5,55] (.cond (.t 55) (.ops [m 56 3,⟨some 57,none,.load (.ld 2 true),[.t 5]⟩,⟨some 58,none,.alloc (.mksl 2 1),[.t 57]⟩,⟨some 59,none,.loud (.app 2 32),[.t 56,.t 58]⟩,m 3 59] [1,2,3,4]) .skip))))) (.ops [m 27 4,c 28 .add 27 1,m 4 28] [1,2,3,4])))))) t12_60)
def b12:BC:=z [⟨some 1,none,.alloc (.box),[.t 0]⟩,⟨some 2,none,.alloc (.alloc [(.int .i64 0),.nils,(.int .u32 0),(.bool false),(.int .u32 0),(.bool false),(.int .u32 0),(.bool false),.nils]),[]⟩] [1,2] (z [f 6 0 1,l 7 1 6,g 8 16 [.t 7,.c (i 0),.c (i 2)],f 9 0 1,s 1 9 8] [1,2] (.seq (z [f 10 2 1,l 11 1 10,g 12 32 [.t 11],u 13 .not 12] [1,2,13] (.cond (.t 13) (.ops [f 14 2 1,l 15 1 14,g 16 40 [.t 15],f 17 2 1,s 1 17 16] [1,2]) .skip)) t12_3))
def F12:Fn Tryz.prog 12:=Fn.mkX false b12 [.c 2 9 true] 72 Tryz.f12 _ Tryz.func12 (by decide) rfl Tryz.ntmps12 (by kernel_rfl) (by kernel_rfl)
end Go.Am.Tsm
namespace Go.Am
open Go.Proofs Go.Sort
def nextF (a:Int):Int:=bitInt .or .u32 3221225984 (Int.tmod a 6)
theorem c40 (a:Int):Pur Tryz.prog 40 [.int .u32 a] (.int .u32 (nextF a)):=by
 refine zq Tst.F40 (by simp [Tst.F40,Fn.mkX]) fun σ => ?_
 simp only [Tst.F40,Fn.mkX,Tst.b40]
 simp only [↓vcPre,↓z0,↓reduceIte,vcPost,vcStd,Nat.reduceEqDiff,reduceCtorEq,Nat.reduceAdd,Nat.reduceLeDiff,Int.reduceLT,Int.reduceLE,↓u_setN]
 exact ⟨by omega,rfl⟩
def cutS (s:Seg):Seg:={ s with ls:=s.ls.take 5 }
def okS (s:Seg):Bool:=decide (0<s.ls.length∧(s.kind=1∨s.kind=2))
def rightP (l:List Seg):List Seg:=((l.take 4).map cutS).filter okS
def rightK (a:At):At:=canonA { a with org:=a.org % 3,nxt:=if goodN a.nxt then a.nxt else nextF a.nxt,path:=rightP a.path,cms:=a.cms.take 5 }
theorem zbp {f:Nat} {cells:List AV} (k esz:Nat) {τ s:Store} {L:List (List AV)} {v R:AV} (hs:Store.sub τ s) (ho:Own esz τ L v s) (hk:cells[k]? = some v) (hf:∀ c ∈ cells.set k (.sl esz L),c.flat=true)
 (h:∀ σ',ACalls Tryz.prog f [.agg (cells.set k (.sl esz L))] σ' (fun r s'=>s'=σ'∧r=R)):ACalls Tryz.prog f [.agg cells] s (fun r s'=>r=R∧Store.sub τ s'∧∀ j o,s j=some o→(∀ M,o ≠ .arr esz M)→s' j=some o):=by
 refine ACalls.weakArgs (h s).1 (WeakL.pos 0 rfl (Weak.agg ?_))
 rcases ho with ⟨rfl,rfl⟩ | ⟨g,rfl,hg,hh⟩
 ·refine WeakL.nil k esz hk (WeakL.pure ⟨hf,WeakL.pure ?_⟩)
  exact (h s).mono fun r s' ⟨a,b⟩=>⟨b,a ▸ hs,fun j o hj _=>a ▸ hj⟩
 ·refine WeakL.freeze k hk hh (by omega) (WeakL.pure ?_)
  simp only [List.drop_zero,List.take_length]
  refine ⟨hf,WeakL.pure ?_⟩
  refine (h (s.del g)).mono fun r s' ⟨a,b⟩=>⟨b,a ▸ sub_del hs hg,fun j o hj hn => ?_⟩
  rw [a,Store.del_ne _ (fun e=>by rw [e,hh] at hj;cases hj;exact hn _ rfl)]
  exact hj
def boxV (a:At) (v:AV):Obj := .box [.int .i64 a.org,v,.int .u32 a.nxt,.bool a.hm,.int .u32 a.med,.bool a.hp,.int .u32 a.prf,.bool a.atm,.sl 1 (a.cms.map cU)]
theorem z78 (a:At) (ha:a.ok) {σ s:Store} {i j:Nat} (hij:¬ i=j) (hi0:σ i=none) (hj0:σ j=none) {v z:AV} {w:List AV} (hs:Store.sub σ s) (hi:s i=some (boxV a z)) (hj:s j=some (.box w)) (hw:w.length=9) (P:List Seg) (hP:P.length≤1000000∧∀ s ∈ P,s.ok) (ho:Own 2 σ (P.map Seg.c) v s) {n r:Env→Store→Prop} {x:Nat→Env→Store→Prop}
 (hr:∀ s',Store.sub σ s'→s' j=some (.box (canonA { a with path:=P,cms:=a.cms.take 5 }).c)→r [(2,.ptr j 0)] s'):bwp Tryz.prog Tsm.t12_60 [(1,.ptr i 0),(2,.ptr j 0),(3,v)] s n r x:=by
 simp only [Tsm.t12_60]
 have hji:¬ j=i:=fun e=>hij e.symm
 have hvc:=ho.cell
 rw [boxV] at hi
 simp only [hi,hvc.1,hvc.2,↓vcPre,↓z0,↓reduceIte,vcPost,vcStd,Nat.reduceEqDiff,reduceCtorEq,Nat.reduceAdd,Nat.reduceLeDiff,Int.reduceLT,Int.reduceLE,↓u_setN]
 have ho2:=ho.setId (o':=boxV a v) hi (fun M e=>by cases e)
 have hi2:(s.set i (boxV a v)) i=some (boxV a v):=Store.set_same _ _ _
 have hj2:(s.set i (boxV a v)) j=some (.box w):=by rw [Store.set_ne _ _ hji];exact hj
 have hs2:Store.sub σ (s.set i (boxV a v)):=za hs hi0
 have e9:∀ x:At,x.c.length=9:=fun _=>rfl
 have fin:∀ (c:List Int) (T:Store),c=a.cms.take 5→Store.sub σ T→T j=some (.box w)→Own 2 σ (P.map Seg.c) v T→ACalls Tryz.prog 41 [.agg [.int .i64 a.org,v,.int .u32 a.nxt,.bool a.hm,.int .u32 a.med,.bool a.hp,.int .u32 a.prf,.bool a.atm,.sl 1 (c.map cU)]] T
  (fun r s'=>r = .agg (canonA { a with path:=P,cms:=a.cms.take 5 }).c∧Store.sub σ s'∧s' j=some (.box w)):=fun c T hc hT hTj hTo=>by
  subst hc
  refine (zbp 1 2 hT hTo rfl (fun c hc => ?_) (fun σ'=>(c41 { a with path:=P,cms:=a.cms.take 5 } ⟨hP.1,hP.2,by simp;omega⟩ σ'))).mono fun r s' ⟨h1,h2,h3⟩=>⟨h1,h2,h3 j _ hTj (fun M e=>by cases e)⟩
  simp at hc
  rcases hc with rfl | rfl | rfl | rfl | rfl | rfl | rfl | rfl | rfl <;> rfl
 have ends:∀ s',Store.sub σ s'→s' j=some (.box w)→wit (splice 0 (canonA { a with path:=P,cms:=a.cms.take 5 }).c w) (fun cs=>r [(2,.ptr j 0)] (s'.set j (.box cs))):=fun s' h1 h2=>by
  rw [yn _ _ (by rw [hw];rfl),y6]
  exact hr _ (za h1 hj0) (Store.set_same _ _ _)
 refine ⟨fun g1=>⟨⟨by simp only [Option.getD_some];omega,by simp only [Option.getD_some];omega⟩,?_⟩,fun g1 => ?_⟩
 ·have e5:List.drop (Int.toNat 0) (List.take ((some (5:Int)).getD (a.cms.length:Int)).toNat (a.cms.map cU))=(a.cms.take 5).map cU:=by rw [List.map_take];rfl
  rw [e5]
  have h3:Store.sub σ (((s.set i (boxV a v)).set i (.box [.int .i64 a.org,v,.int .u32 a.nxt,.bool a.hm,.int .u32 a.med,.bool a.hp,.int .u32 a.prf,.bool a.atm,.sl 1 ((a.cms.take 5).map cU)]))):=za hs2 hi0
  refine (fin _ _ rfl h3 (by rw [Store.set_ne _ _ hji];exact hj2) (ho2.setId hi2 (fun M e=>by cases e))).Q ?_
  rintro r' s' ⟨rfl,k1,k2⟩
  simp only [e9,k2,↓vcPre,↓z0,↓reduceIte,vcPost,vcStd,Nat.reduceEqDiff,reduceCtorEq,Nat.reduceAdd,Nat.reduceLeDiff,Int.reduceLT,Int.reduceLE,↓u_setN]
  exact ends s' k1 k2
 ·refine (fin _ _ (List.take_of_length_le (by omega)).symm hs2 hj2 ho2).Q ?_
  rintro r' s' ⟨rfl,k1,k2⟩
  simp only [e9,k2,↓vcPre,↓z0,↓reduceIte,vcPost,vcStd,Nat.reduceEqDiff,reduceCtorEq,Nat.reduceAdd,Nat.reduceLeDiff,Int.reduceLT,Int.reduceLE,↓u_setN]
  exact ends s' k1 k2
theorem z4i (l:List Seg) (h:∀ s ∈ l,s.ok):(rightP l).length≤1000000∧∀ s ∈ rightP l,s.ok:=by
 constructor
 ·have:=List.length_filter_le okS ((l.take 4).map cutS)
  unfold rightP
  simp at this ⊢;omega
 ·intro s hs
  simp only [rightP,List.mem_filter,List.mem_map] at hs
  obtain ⟨⟨t,_,rfl⟩,_⟩:=hs
  simp [Seg.ok,cutS];omega
theorem z79 (a:At) (ha:a.ok) {σ s:Store} {i j:Nat} (hij:¬ i=j) (hi0:σ i=none) (hj0:σ j=none) {w:List AV} (hs:Store.sub σ s) (hi:s i=some (boxV a (.sl 2 (a.path.map Seg.c)))) (hj:s j=some (.box w)) (hw:w.length=9) {n r:Env→Store→Prop} {x:Nat→Env→Store→Prop}
 (hr:∀ s',Store.sub σ s'→s' j=some (.box (canonA { a with path:=rightP a.path,cms:=a.cms.take 5 }).c)→r [(2,.ptr j 0)] s'):bwp Tryz.prog Tsm.t12_3 [(1,.ptr i 0),(2,.ptr j 0)] s n r x:=by
 simp only [Tsm.t12_3]
 simp only [↓vcPre,↓z0,↓reduceIte,vcPost,vcStd,Nat.reduceEqDiff,reduceCtorEq,Nat.reduceAdd,Nat.reduceLeDiff,Int.reduceLT,Int.reduceLE,↓u_setN]
 refine LoopQ.inv (S:=Nat×AV×Store) (fun q=>[(1,.ptr i 0),(2,.ptr j 0),(3,q.2.1),(4,.int .i64 (q.1:Int))]) (fun q=>q.2.2) (fun q=>q.1≤a.path.length∧q.1≤4∧Store.sub s q.2.2∧Own 2 s ((((a.path.take q.1).map cutS).filter okS).map Seg.c) q.2.1 q.2.2) (fun q=>5 - q.1) (0,.nils,s) rfl (Store.sub_refl _) ⟨by simp only;omega,by simp only;omega,Store.sub_refl _,.nil⟩ ?_
 rintro ⟨k,v,s1⟩ ⟨hk,hk4,hs1,ho1⟩
 simp only at hk hk4 hs1 ho1
 have hi1:=hs1 _ _ hi
 rw [boxV] at hi1
 simp only [hi1,↓vcPre,↓z0,↓reduceIte,vcPost,vcStd,Nat.reduceEqDiff,reduceCtorEq,Nat.reduceAdd,Nat.reduceLeDiff,Int.reduceLT,Int.reduceLE,↓u_setN]
 refine ⟨fun c1=>⟨fun c2 => ?_,fun c2 => ?_⟩,fun c1 => ?_⟩
 ·have ek:IntKind.i64.wrap ((k:Int)+1)=((k+1:Nat):Int):=by rw [zj (by unfold I64;omega)];omega
  refine ⟨c1,by simp [Seg.c],?_⟩
  refine AllocQ.i0 fun b hb => ?_
  simp only [Seg.c,Store.set_set,↓vcPre,↓z0,↓reduceIte,vcPost,vcStd,Nat.reduceEqDiff,reduceCtorEq,Nat.reduceAdd,Nat.reduceLeDiff,Int.reduceLT,Int.reduceLE,↓u_setN]
  have hl5:List.drop (Int.toNat 0) (List.take ((some (5:Int)).getD (a.path[k].ls.length:Int)).toNat (a.path[k].ls.map cU))=(a.path[k].ls.take 5).map cU:=by rw [List.map_take];rfl
  rw [hl5,ek]
  simp only [Option.getD_some]
  have filt:((a.path.take (k+1)).map cutS).filter okS=((a.path.take k).map cutS).filter okS++(if okS (cutS a.path[k]) then [cutS a.path[k]] else []):=by
   rw [List.take_add_one,List.getElem?_eq_getElem c1,Option.toList_some,List.map_append,List.filter_append]
   congr 1
   simp only [List.map_cons,List.map_nil,List.filter_cons,List.filter_nil]
  have hpl:(((a.path.take k).map cutS).filter okS).length≤4:=by
   have:=List.length_filter_le okS ((a.path.take k).map cutS)
   simp at this ⊢;omega
  have yes:∀ (c:List AV),c=(cutS a.path[k]).c→okS (cutS a.path[k])=true→∀ T d,T=s1.set b (.box c)→T d=none→appwp 2 32 v (.os d 2 0 1) (T.set d (.arr 2 [c])) (fun v' s' => @NextQ [(1,.ptr i 0),(2,.ptr j 0),(3,v'),(4,.int .i64 ((k+1:Nat):Int))] s' ⟨fun e' σ'=>∃ s',e'=[(1,.ptr i 0),(2,.ptr j 0),(3,(s':Nat×AV×Store).2.1),(4,.int .i64 (s'.1:Int))]∧Store.sub s'.2.2 σ'∧5 - s'.1<5 - k∧(s'.1≤a.path.length∧s'.1≤4∧Store.sub s s'.2.2∧Own 2 s ((((a.path.take s'.1).map cutS).filter okS).map Seg.c) s'.2.1 s'.2.2)⟩):=by
   intro c hc hok T d hT hd
   subst hT
   have hsb:=Store.sub_trans (Store.sub_set s1 b (.box c) hb) (Store.sub_set _ d (.arr 2 [c]) hd)
   refine Own.app (τ:=s) (Store.sub_trans hs1 hsb) (ho1.mono hsb) (zn (Store.set_same _ _ _) rfl) (by rw [List.length_map];omega) fun v' s' k1 k2 => ?_
   refine NextQ.to (st:=fun q:Nat×AV×Store=>q.2.2) (env:=fun q=>[(1,.ptr i 0),(2,.ptr j 0),(3,q.2.1),(4,.int .i64 (q.1:Int))]) (m:=fun q=>5 - q.1) (s:=(k,v,s1)) (k+1,v',s') rfl (Store.sub_refl _) (by simp only;omega) ⟨by simp only;omega,by simp only;omega,k1,?_⟩
   simp only
   rw [filt,hok,List.map_append,if_pos rfl]
   rw [hc] at k2
   exact k2
  have no:∀ T,Store.sub s1 T→okS (cutS a.path[k])=false → @NextQ [(1,.ptr i 0),(2,.ptr j 0),(3,v),(4,.int .i64 ((k+1:Nat):Int))] T ⟨fun e' σ'=>∃ s',e'=[(1,.ptr i 0),(2,.ptr j 0),(3,(s':Nat×AV×Store).2.1),(4,.int .i64 (s'.1:Int))]∧Store.sub s'.2.2 σ'∧5 - s'.1<5 - k∧(s'.1≤a.path.length∧s'.1≤4∧Store.sub s s'.2.2∧Own 2 s ((((a.path.take s'.1).map cutS).filter okS).map Seg.c) s'.2.1 s'.2.2)⟩:=by
   intro T hT hok
   refine NextQ.to (st:=fun q:Nat×AV×Store=>q.2.2) (env:=fun q=>[(1,.ptr i 0),(2,.ptr j 0),(3,q.2.1),(4,.int .i64 (q.1:Int))]) (m:=fun q=>5 - q.1) (s:=(k,v,s1)) (k+1,v,T) rfl (Store.sub_refl _) (by simp only;omega) ⟨by simp only;omega,by simp only;omega,Store.sub_trans hs1 hT,?_⟩
   simp only
   rw [filt,hok]
   simpa using ho1.mono hT
  have okl:okS (cutS a.path[k])=decide (0<(a.path[k].ls.take 5).length∧(a.path[k].kind=1∨a.path[k].kind=2)):=rfl
  have hlt:(a.path[k].ls.take 5).length=min 5 a.path[k].ls.length:=List.length_take
  refine ⟨fun g1=>⟨by omega,?_⟩,fun g1 => ?_⟩
  ·rw [List.length_map]
   refine ⟨fun g2=>⟨fun g3=>⟨fun g4 => ?_,fun g4 => ?_⟩,fun g3 => ?_⟩,fun g2 => ?_⟩
   ·refine AllocQ.i0 fun d hd => ?_
    simp only [↓vcPre,↓z0,↓reduceIte,vcPost,vcStd,Nat.reduceEqDiff,reduceCtorEq,Nat.reduceAdd,Nat.reduceLeDiff,Int.reduceLT,Int.reduceLE,↓u_setN]
    rw [ek]
    exact yes _ rfl (by rw [okl,decide_eq_true_eq];omega) _ d rfl hd
   ·exact no _ (Store.sub_set _ _ _ hb) (by rw [okl,decide_eq_false_iff_not];omega)
   ·refine AllocQ.i0 fun d hd => ?_
    simp only [↓vcPre,↓z0,↓reduceIte,vcPost,vcStd,Nat.reduceEqDiff,reduceCtorEq,Nat.reduceAdd,Nat.reduceLeDiff,Int.reduceLT,Int.reduceLE,↓u_setN]
    rw [ek]
    exact yes _ rfl (by rw [okl,decide_eq_true_eq];omega) _ d rfl hd
   ·exact no _ (Store.sub_set _ _ _ hb) (by rw [okl,decide_eq_false_iff_not];omega)
  ·have hcc:[AV.int .i64 a.path[k].kind,.sl 1 (a.path[k].ls.map cU)]=(cutS a.path[k]).c:=by
    have:a.path[k].ls.take 5=a.path[k].ls:=List.take_of_length_le (by omega)
    simp [cutS,Seg.c,this]
   refine ⟨fun g2=>⟨fun g3=>⟨fun g4 => ?_,fun g4 => ?_⟩,fun g3 => ?_⟩,fun g2 => ?_⟩
   ·refine AllocQ.i0 fun d hd => ?_
    simp only [↓vcPre,↓z0,↓reduceIte,vcPost,vcStd,Nat.reduceEqDiff,reduceCtorEq,Nat.reduceAdd,Nat.reduceLeDiff,Int.reduceLT,Int.reduceLE,↓u_setN]
    rw [ek]
    exact yes _ hcc (by rw [okl,decide_eq_true_eq];omega) _ d rfl hd
   ·exact no _ (Store.sub_set _ _ _ hb) (by rw [okl,decide_eq_false_iff_not];omega)
   ·refine AllocQ.i0 fun d hd => ?_
    simp only [↓vcPre,↓z0,↓reduceIte,vcPost,vcStd,Nat.reduceEqDiff,reduceCtorEq,Nat.reduceAdd,Nat.reduceLeDiff,Int.reduceLT,Int.reduceLE,↓u_setN]
    rw [ek]
    exact yes _ hcc (by rw [okl,decide_eq_true_eq];omega) _ d rfl hd
   ·exact no _ (Store.sub_set _ _ _ hb) (by rw [okl,decide_eq_false_iff_not];omega)
 all_goals
  have e:a.path.take k=a.path.take 4:=by
   by_cases h:k=4
   ·rw [h]
   ·rw [List.take_of_length_le (by omega),List.take_of_length_le (by omega)]
  rw [e] at ho1
  exact z78 a ha hij hi0 hj0 (Store.sub_trans hs hs1) hi1 (hs1 _ _ hj) hw (rightP a.path) (z4i _ ha.2.1) (ho1.weak hs) hr
set_option maxHeartbeats 400000 in
theorem c12 (a:At) (ha:a.ok) (h64:I64 a.org):Pur Tryz.prog 12 [.agg a.c] (.agg (rightK a).c):=by
 intro σ
 refine zi Tsm.F12 (by simp [Tsm.F12,Fn.mkX]) ?_
 simp only [Tsm.F12,Fn.mkX,Tsm.b12]
 simp only [At.c,↓vcPre,↓z0,↓reduceIte,vcPost,vcStd,Nat.reduceEqDiff,reduceCtorEq,Nat.reduceAdd,Nat.reduceLeDiff,Int.reduceLT,Int.reduceLE,↓u_setN]
 refine AllocQ.i0 fun i hi => ?_
 simp only [At.c,↓vcPre,↓z0,↓reduceIte,vcPost,vcStd,Nat.reduceEqDiff,reduceCtorEq,Nat.reduceAdd,Nat.reduceLeDiff,Int.reduceLT,Int.reduceLE,↓u_setN]
 refine AllocQ.i1 fun j hj1 hj2 hj => ?_
 simp only [hj1,hj2,↓vcPre,↓z0,↓reduceIte,vcPost,vcStd,Nat.reduceEqDiff,reduceCtorEq,Nat.reduceAdd,Nat.reduceLeDiff,Int.reduceLT,Int.reduceLE,↓u_setN]
 refine (c16 a.org 0 2 h64 (by omega) (by omega) (by omega)).Q ?_
 rw [show (0:Int)+a.org % (2 - 0+1)=a.org % 3 by omega]
 simp only [hj1,hj2,↓vcPre,↓z0,↓reduceIte,vcPost,vcStd,Nat.reduceEqDiff,reduceCtorEq,Nat.reduceAdd,Nat.reduceLeDiff,Int.reduceLT,Int.reduceLE,↓u_setN]
 refine (c32 a.nxt).Q ?_
 have key:∀ (m:Int) (t:Store) (z:List AV) (xx:Nat→Env→Store→Prop) (nn:Env→Store→Prop),z.length=9→m=(if goodN a.nxt then a.nxt else nextF a.nxt)→t i=some (boxV { a with org:=a.org % 3,nxt:=m } (.sl 2 (a.path.map Seg.c)))→t j=some (.box z)→Store.sub σ t →
  bwp Tryz.prog Tsm.t12_3 [(1,.ptr i 0),(2,.ptr j 0)] t nn (fun e s => @EndQ e s ⟨Tsm.F12.slots,fun r s=>s=σ∧r = .agg (rightK a).c⟩) xx:=by
  intro m t z xx nn hz hm h1 h2 h3
  subst hm
  refine z79 { a with org:=a.org % 3,nxt:=if goodN a.nxt then a.nxt else nextF a.nxt } ⟨ha.1,ha.2.1,ha.2.2⟩ hj2 hi hj h3 h1 h2 hz fun s' k1 k2 => ?_
  refine EndQ.to σ (.agg (rightK a).c) ?_ k1 ⟨rfl,rfl⟩
  show Env.res [(2,AV.ptr j 0)] s' [RS.c 2 9 true]=_
  have e9:∀ x:At,x.c.length=9:=fun _=>rfl
  have t9:∀ x:At,List.take 9 x.c=x.c:=fun _=>rfl
  simp only [k2,e9,t9,Nat.le_refl,↓vcPre,↓z0,↓reduceIte,vcPost,vcStd,Nat.reduceEqDiff,reduceCtorEq,Nat.reduceAdd,Nat.reduceLeDiff,Int.reduceLT,Int.reduceLE,↓u_setN]
  rfl
 have hs2:=zo (o:=Obj.box a.c) (p := .box zCells) hi hj hj1
 by_cases g:goodN a.nxt
 ·rw [decide_eq_true g]
  simp only [hj1,hj2,↓vcPre,↓z0,↓reduceIte,vcPost,vcStd,Nat.reduceEqDiff,reduceCtorEq,Nat.reduceAdd,Nat.reduceLeDiff,Int.reduceLT,Int.reduceLE,↓u_setN]
  refine key a.nxt _ zCells _ _ rfl (by rw [if_pos g]) (by rw [Store.set_same];rfl) (by rw [Store.set_ne _ _ hj1,Store.set_same];rfl) (za hs2 hi)
 ·rw [decide_eq_false g]
  simp only [hj1,hj2,↓vcPre,↓z0,↓reduceIte,vcPost,vcStd,Nat.reduceEqDiff,reduceCtorEq,Nat.reduceAdd,Nat.reduceLeDiff,Int.reduceLT,Int.reduceLE,↓u_setN]
  refine (c40 a.nxt).Q ?_
  simp only [hj1,hj2,↓vcPre,↓z0,↓reduceIte,vcPost,vcStd,Nat.reduceEqDiff,reduceCtorEq,Nat.reduceAdd,Nat.reduceLeDiff,Int.reduceLT,Int.reduceLE,↓u_setN]
  refine key (nextF a.nxt) _ zCells _ _ rfl (by rw [if_neg g]) (by rw [Store.set_same];rfl) (by rw [Store.set_ne _ _ hj1,Store.set_ne _ _ hj1,Store.set_same];rfl) (za (za hs2 hi) hi)
end Go.Am
namespace Go.Am
open Go.Proofs Go.Sort
theorem s14 {σ:Store} {B:List Int} {v:AV} (hr:Rd 1 σ (B.map cB) v) (n:Nat):ACalls Tryz.prog 14 [v,.int .i64 (n:Int)] σ (fun r s=>s=σ∧Rd 1 σ ((B.take n).map cB) r):=by
 refine zi Tst.F14 (by simp [Tst.F14,Fn.mkX]) ?_
 simp only [Tst.F14,Fn.mkX,Tst.b14]
 have hlen:pv .len [v]=some (.int .i64 (B.length:Int)):=by rw [hr.2];simp
 have hvt:=hr.isTup
 simp only [hlen,↓vcPre,↓z0,↓reduceIte,vcPost,vcStd,Nat.reduceEqDiff,reduceCtorEq,Nat.reduceAdd,Nat.reduceLeDiff,Int.reduceLT,Int.reduceLE,↓u_setN]
 refine ⟨fun c1 => ?_,fun c1 => ?_⟩
 ·obtain ⟨w,hw,hrw⟩:=hr.slice (lo:=0) (hi:=n) (by omega) (by simp;omega)
  have hw':pSlice 1 v 0 (some (n:Int))=some w:=hw
  simp only [hw',↓vcPre,↓z0,↓reduceIte,vcPost,vcStd,Nat.reduceEqDiff,reduceCtorEq,Nat.reduceAdd,Nat.reduceLeDiff,Int.reduceLT,Int.reduceLE,↓u_setN]
  exact EndQ.to σ w rfl (Store.sub_refl _) ⟨rfl,by rw [List.drop_zero,←List.map_take] at hrw;exact hrw⟩
 ·exact EndQ.to σ v rfl (Store.sub_refl _) ⟨rfl,by rw [List.take_of_length_le (by omega)];exact hr⟩
end Go.Am
namespace Go.Am
open Go.Proofs Go.Sort
theorem z3g (l:List Int):U8s (encW l):=by
 intro x hx
 simp only [encW,List.mem_flatMap] at hx
 obtain ⟨n,_,h⟩:=hx
 exact z17 n x h
theorem z4j (l:List Seg):U8s (encPath l):=by
 intro x hx
 simp only [encPath,List.mem_flatMap] at hx
 obtain ⟨s,_,h⟩:=hx
 simp only [encSeg,List.mem_append,List.mem_cons,List.not_mem_nil,or_false] at h
 rcases h with (rfl | rfl) | h
 ·omega
 ·omega
 ·exact z3g _ x h
theorem z4k {l:List Seg} (h:∀ s ∈ l,s.ls.length≤5):(encPath l).length≤22*l.length:=by
 induction l with
 | nil=>simp [encPath]
 | cons s l ih =>
   have h1:=h s (by simp)
   have h2:=ih fun x hx=>h x (by simp [hx])
   have h3:=xd s.ls
   simp only [encPath,List.flatMap_cons,List.length_append,encSeg,List.length_cons,List.length_nil] at h2 ⊢
   omega
theorem xl {fl k:Int} {v:List Int} (h1:0≤fl∧fl<240) (h2:0≤k∧k<256) (h3:U8s v):U8s (oneA fl k v):=by
 intro x hx
 unfold oneA at hx
 rcases List.mem_append.1 hx with h | h
 ·split at h
  ·simp only [List.mem_cons,List.not_mem_nil,or_false] at h;omega
  ·simp only [List.mem_cons,List.not_mem_nil,or_false] at h;omega
 ·exact h3 x h
theorem z9r (a:At):U8s (encA a):=by
 have e1:U8s (oneA 64 1 [a.org % 256]):=xl (by omega) (by omega) fun x hx=>by simp only [List.mem_singleton] at hx;omega
 have e2:=xl (fl:=64) (k:=2) (by omega) (by omega) (z4j a.path)
 have e3:=xl (fl:=64) (k:=3) (by omega) (by omega) (z17 a.nxt)
 have e4:U8s (if a.hm then oneA 128 4 (b4 a.med) else []):=by
  split
  ·exact xl (by omega) (by omega) (z17 _)
  ·intro x hx;simp at hx
 have e5:U8s (if a.hp then oneA 64 5 (b4 a.prf) else []):=by
  split
  ·exact xl (by omega) (by omega) (z17 _)
  ·intro x hx;simp at hx
 have e6:U8s (if a.atm then oneA 64 6 [] else []):=by
  split
  ·exact xl (by omega) (by omega) fun x hx=>by simp at hx
  ·intro x hx;simp at hx
 have e8:U8s (if a.cms=[] then [] else oneA 192 8 (encW a.cms)):=by
  split
  ·intro x hx;simp at hx
  ·exact xl (by omega) (by omega) (z3g _)
 unfold encA
 exact (((((e1.append e2).append e3).append e4).append e5).append e6).append e8
theorem yr (fl k:Int) (v:List Int):3≤(oneA fl k v).length∧(oneA fl k v).length≤4+v.length:=by
 rw [z21];split <;> omega
theorem z4l (a:At):4≤(encA (rightK a)).length∧(encA (rightK a)).length≤1000:=by
 have hp:(rightK a).path.length≤4∧∀ s ∈ (rightK a).path,s.ls.length≤5:=by
  constructor
  ·have:=List.length_filter_le okS ((a.path.take 4).map cutS)
   simp only [rightK,canonA,rightP]
   simp only [List.length_map,List.length_take] at this
   omega
  ·intro s hs
   simp only [rightK,canonA,rightP] at hs
   have h2:=(List.mem_filter.mp hs).1
   simp only [List.mem_map] at h2
   obtain ⟨x,_,rfl⟩:=h2
   unfold cutS;simp only [List.length_take];omega
 have hc:(rightK a).cms.length≤5:=by
  simp only [rightK,canonA]
  have:=vu (a.cms.take 5)
  simp only [List.length_take] at this
  omega
 generalize rightK a=r at hp hc ⊢
 have h1:=z4k hp.2
 have h2:=xd r.cms
 have b:∀ n,(b4 n).length=4:=fun _=>rfl
 unfold encA
 simp only [List.length_append]
 have z1:=yr 64 1 [r.org % 256]
 have z1e:(oneA 64 1 [r.org % 256]).length=4:=rfl
 have z2:=yr 64 2 (encPath r.path)
 have z3:=yr 64 3 (b4 r.nxt)
 have z3b:=b r.nxt
 have q4:(if r.hm=true then oneA 128 4 (b4 r.med) else []).length≤8:=by
  split
  ·have:=(yr 128 4 (b4 r.med)).2;have:=(yr 64 5 (b4 r.prf)).2;have:=b r.med;have:=b r.prf;omega
  ·simp
 have q5:(if r.hp=true then oneA 64 5 (b4 r.prf) else []).length≤8:=by
  split
  ·have:=(yr 128 4 (b4 r.med)).2;have:=(yr 64 5 (b4 r.prf)).2;have:=b r.med;have:=b r.prf;omega
  ·simp
 have q6:(if r.atm=true then oneA 64 6 [] else []).length≤8:=by
  split
  ·have:=(yr 64 6 []).2;simp only [List.length_nil] at this;omega
  ·simp
 have q8:(if r.cms=[] then [] else oneA 192 8 (encW r.cms)).length≤24:=by
  split
  ·simp
  ·have:=(yr 192 8 (encW r.cms)).2;omega
 omega
end Go.Am
namespace Go.Am.Tsu
open Go.Proofs Go.Am.B
def t3_71:BC:=z [m 71 11,g 72 15 [.t 71],m 73 72,⟨some 74,some (73,true),.loud (.call 17),[]⟩,⟨some 75,none,.pick,[.t 73,.t 74,.c (.bool false)]⟩,m 10 75] [10] .ret
def t3_45:BC:=z [m 45 2,m 46 11,u 47 .len 46,c 48 .sub 47 1,g 49 16 [.t 45,.c (i 0),.t 48],m 12 49] [3,4,11,12] (.seq (z [m 50 4,g 51 16 [.t 50,.c (i 0),.c (i 2)]] [3,11,12,51] (.block 0 (z [c 56 .eql 51 0,m 55 56] [3,11,12,51,55] (.cond (.t 55) (.ops [m 57 11,m 58 12,m 59 11,m 60 12,x 61 1 59 60,l 62 1 61,m 63 3,b 64 .xor 62 63,x 65 1 57 58,s 1 65 64] [11]) (z [c 67 .eql 51 1,m 66 67] [11,12,66] (.cond (.t 66) (.ops [m 68 11,m 69 12,p 70 (.slice 1 false true) [.t 68,.t 69],m 11 70] [11]) (.ops [m 52 11,m 53 11,⟨some 54,none,.loud (.app 1 1),[.t 52,.t 53]⟩,m 11 54] [11]))))))) t3_71)
def b3:BC:=z [⟨some 5,none,.alloc (.box),[.t 0]⟩,k 10 (.bool false)] [1,2,3,4,5] (z [⟨some 13,none,.load (.ld 9 true),[.t 5]⟩,g 14 13 [.t 13],g 15 12 [.t 14],g 16 11 [.t 15],m 11 16] [1,2,3,4,11] (z [m 17 1,g 18 14 [.t 17,.c (i 100)],m 1 18] [1,2,3,4,11] (.seq (z [m 19 11,g 20 15 [.t 19],u 21 .not 20,m 22 21,⟨some 23,some (22,false),.pure (.mov),[.t 1]⟩,⟨some 24,some (22,false),.loud (.call 15),[.t 23]⟩,⟨some 25,some (22,false),.pure (.not),[.t 24]⟩,⟨some 26,none,.pick,[.t 22,.c (.bool true),.t 25]⟩,m 27 26,⟨some 28,some (27,false),.alloc (.mksl 1 0),[]⟩,⟨some 29,some (27,false),.pure (.mov),[.t 11]⟩,⟨some 30,some (27,false),.loud (.app 1 1),[.t 28,.t 29]⟩,⟨some 31,some (27,false),.pure (.mov),[.t 1]⟩,⟨some 32,some (27,false),.loud (.app 1 1),[.t 30,.t 31]⟩,⟨some 33,some (27,false),.loud (.call 15),[.t 32]⟩,⟨some 34,some (27,false),.pure (.not),[.t 33]⟩,⟨some 35,none,.pick,[.t 27,.c (.bool true),.t 34]⟩,m 36 35,⟨some 37,some (36,false),.alloc (.mksl 1 0),[]⟩,⟨some 38,some (36,false),.pure (.mov),[.t 1]⟩,⟨some 39,some (36,false),.loud (.app 1 1),[.t 37,.t 38]⟩,⟨some 40,some (36,false),.pure (.mov),[.t 11]⟩,⟨some 41,some (36,false),.loud (.app 1 1),[.t 39,.t 40]⟩,⟨some 42,some (36,false),.loud (.call 15),[.t 41]⟩,⟨some 43,some (36,false),.pure (.not),[.t 42]⟩,⟨some 44,none,.pick,[.t 36,.c (.bool true),.t 43]⟩] [2,3,4,11,44] (.cond (.t 44) (z [k 10 (.bool false)] [10] .ret) .skip)) t3_45)))
def F3:Fn Tryz.prog 3:=Fn.mkX false b3 [.t 10] 76 Tryz.f3 _ Tryz.func3 (by decide) rfl Tryz.ntmps3 (by kernel_rfl) (by kernel_rfl)
end Go.Am.Tsu
namespace Go.Am
open Go.Proofs Go.Sort
set_option maxHeartbeats 1000000 in
theorem z7a (a:At) (ho:I64 a.org) (bl:List Int) (hb:U8s bl) (at':Int) (ha:I64 at') (turn:Int) (ht:0≤turn∧turn<256) (how:Int) (hw:I64 how):Pur Tryz.prog 3 [.agg a.c,.sl 1 (bl.map cB),.int .i64 at',.int .u8 turn,.int .i64 how] (.bool true):=by
 refine zq Tsu.F3 (by simp [Tsu.F3,Fn.mkX]) fun σ => ?_
 simp only [Tsu.F3,Fn.mkX,Tsu.b3]
 have e9:∀ x:At,x.c.length=9:=fun _=>rfl
 have t9:∀ x:At,List.take 9 x.c=x.c:=fun _=>rfl
 simp only [↓vcPre,↓z0,↓reduceIte,vcPost,vcStd,Nat.reduceEqDiff,reduceCtorEq,Nat.reduceAdd,Nat.reduceLeDiff,Int.reduceLT,Int.reduceLE,↓u_setN]
 refine AllocQ.i0 fun i hi => ?_
 simp only [e9,t9,Nat.le_refl,↓vcPre,↓z0,↓reduceIte,vcPost,vcStd,Nat.reduceEqDiff,reduceCtorEq,Nat.reduceAdd,Nat.reduceLeDiff,Int.reduceLT,Int.reduceLE,↓u_setN]
 have sT:=Store.sub_set σ i (.box a.c) hi
 generalize σ.set i (.box a.c)=T at sT ⊢
 refine (c13 a).Q ?_
 simp only [↓vcPre,↓z0,↓reduceIte,vcPost,vcStd,Nat.reduceEqDiff,reduceCtorEq,Nat.reduceAdd,Nat.reduceLeDiff,Int.reduceLT,Int.reduceLE,↓u_setN]
 have hen:encOk (shortA a):=by
  refine ⟨by simp only [shortA,List.length_map,List.length_take];omega,fun s hs => ?_,by simp only [shortA,List.length_take];omega⟩
  simp only [shortA,List.mem_map] at hs
  obtain ⟨x,_,rfl⟩:=hs
  simp only [shortS,List.length_take];omega
 have hok:(shortA a).ok:=⟨by have:=hen.1;omega,fun s hs=>by have:=hen.2.1 s hs;show s.ls.length≤_;omega,by have:=hen.2.2;omega⟩
 refine (c12 _ hok ho).Q ?_
 simp only [↓vcPre,↓z0,↓reduceIte,vcPost,vcStd,Nat.reduceEqDiff,reduceCtorEq,Nat.reduceAdd,Nat.reduceLeDiff,Int.reduceLT,Int.reduceLE,↓u_setN]
 have hre:encOk (rightK (shortA a)):=by
  refine ⟨?_,fun s hs => ?_,?_⟩
  ·have:=List.length_filter_le okS (((shortA a).path.take 4).map cutS)
   simp only [rightK,canonA,rightP]
   simp only [List.length_map,List.length_take] at this
   omega
  ·simp only [rightK,canonA,rightP] at hs
   have h2:=(List.mem_filter.mp hs).1
   simp only [List.mem_map] at h2
   obtain ⟨x,_,rfl⟩:=h2
   unfold cutS;simp only [List.length_take];omega
  ·simp only [rightK,canonA]
   have:=vu ((shortA a).cms.take 5)
   simp only [List.length_take] at this
   omega
 have hy1:=z4l (shortA a)
 have hyu:=z9r (rightK (shortA a))
 generalize rightK (shortA a)=r at hre hy1 hyu ⊢
 refine (s11 r hre T).Q ?_
 rintro y s ⟨hs,hy⟩
 generalize encA r=Y at hy hy1 hyu ⊢
 simp only [↓vcPre,↓z0,↓reduceIte,vcPost,vcStd,Nat.reduceEqDiff,reduceCtorEq,Nat.reduceAdd,Nat.reduceLeDiff,Int.reduceLT,Int.reduceLE,↓u_setN]
 refine (s14 (σ:=s) (B:=bl) Rd.sl 100).Q ?_
 rintro b s' ⟨rfl,hbr⟩
 have hbl:(bl.take 100).length≤100:=by simp only [List.length_take];omega
 have hbu:U8s (bl.take 100):=hb.take 100
 generalize bl.take 100=Bb at hbr hbl hbu
 simp only [↓vcPre,↓z0,↓reduceIte,vcPost,vcStd,Nat.reduceEqDiff,reduceCtorEq,Nat.reduceAdd,Nat.reduceLeDiff,Int.reduceLT,Int.reduceLE,↓u_setN]
 refine (s15 (Rd.own hy) (by omega) hyu).Q ?_
 rintro r1 s2 ⟨rfl,rfl⟩
 simp only [↓vcPre,↓z0,↓reduceIte,vcPost,vcStd,Nat.reduceEqDiff,reduceCtorEq,Nat.reduceAdd,Nat.reduceLeDiff,Int.reduceLT,Int.reduceLE,↓u_setN]
 refine (s15 hbr (by omega) hbu).Q ?_
 rintro r1 s3 ⟨rfl,rfl⟩
 simp only [↓vcPre,↓z0,↓reduceIte,vcPost,vcStd,Nat.reduceEqDiff,reduceCtorEq,Nat.reduceAdd,Nat.reduceLeDiff,Int.reduceLT,Int.reduceLE,↓u_setN]
 have hyr:Rd 1 s3 (Y.map cB) y:=Rd.own hy
 refine AllocQ.i0 fun d hd => ?_
 simp only [↓vcPre,↓z0,↓reduceIte,vcPost,vcStd,Nat.reduceEqDiff,reduceCtorEq,Nat.reduceAdd,Nat.reduceLeDiff,Int.reduceLT,Int.reduceLE,↓u_setN]
 have hsd:=Store.sub_set s3 d (.arr 1 []) hd
 refine Own.appM (τ:=s3) hsd (Own.new (L:=[]) hd) (hyr.1 _ hsd) (by simp;omega) fun v1 u1 hu1 ho1 => ?_
 refine Own.appM (τ:=s3) hu1 ho1 (hbr.1 _ hu1) (by simp;omega) fun v2 u2 hu2 ho2 => ?_
 have ho2':Own 1 s3 ((Y++Bb).map cB) v2 u2:=by simpa using ho2
 refine (s15 (Rd.own ho2') (by simp only [List.length_append];omega) (hyu.append hbu)).Q ?_
 rintro r1 s4 ⟨rfl,rfl⟩
 simp only [↓vcPre,↓z0,↓reduceIte,vcPost,vcStd,Nat.reduceEqDiff,reduceCtorEq,Nat.reduceAdd,Nat.reduceLeDiff,Int.reduceLT,Int.reduceLE,↓u_setN]
 have hyr4:=hyr.mono hu2
 have hbr4:=hbr.mono hu2
 have hy4:=hy.mono hu2
 have hs4:=Store.sub_trans hs hu2
 clear hu1 ho1 ho2 ho2' hsd hd
 refine AllocQ.i0 fun d hd => ?_
 simp only [↓vcPre,↓z0,↓reduceIte,vcPost,vcStd,Nat.reduceEqDiff,reduceCtorEq,Nat.reduceAdd,Nat.reduceLeDiff,Int.reduceLT,Int.reduceLE,↓u_setN]
 have hsd:=Store.sub_set s4 d (.arr 1 []) hd
 refine Own.appM (τ:=s4) hsd (Own.new (L:=[]) hd) (hbr4.1 _ hsd) (by simp;omega) fun v1 w1 hu1 ho1 => ?_
 refine Own.appM (τ:=s4) hu1 ho1 (hyr4.1 _ hu1) (by simp;omega) fun v2 w2 hu2' ho2 => ?_
 have ho2':Own 1 s4 ((Bb++Y).map cB) v2 w2:=by simpa using ho2
 refine (s15 (Rd.own ho2') (by simp only [List.length_append];omega) (hbu.append hyu)).Q ?_
 rintro r1 s5 ⟨rfl,rfl⟩
 simp only [↓vcPre,↓z0,↓reduceIte,vcPost,vcStd,Nat.reduceEqDiff,reduceCtorEq,Nat.reduceAdd,Nat.reduceLeDiff,Int.reduceLT,Int.reduceLE,↓u_setN]
 have hyr5:=hyr4.mono hu2'
 have hy5:=hy4.mono hu2'
 have hs5:=Store.sub_trans hs4 hu2'
 have σ5:=Store.sub_trans sT hs5
 simp only [Tsu.t3_45]
 have hlen:pv .len [y]=some (.int .i64 (Y.length:Int)):=by rw [hyr5.2];simp
 simp only [hlen,↓vcPre,↓z0,↓reduceIte,vcPost,vcStd,Nat.reduceEqDiff,reduceCtorEq,Nat.reduceAdd,Nat.reduceLeDiff,Int.reduceLT,Int.reduceLE,↓u_setN]
 have w64:IntKind.i64.wrap ((Y.length:Int) - 1)=(Y.length:Int) - 1:=zj (by unfold I64;omega)
 rw [w64]
 refine (c16 at' 0 ((Y.length:Int) - 1) ha (by omega) (by omega) (by omega)).Q ?_
 obtain ⟨k,hk,hk2⟩:∃ k:Nat,(0:Int)+at' % ((Y.length:Int) - 1 - 0+1)=k∧k<Y.length:=by
  have h1:=Int.emod_nonneg at' (b:=(Y.length:Int) - 1 - 0+1) (by omega)
  have h2:=Int.emod_lt_of_pos at' (b:=(Y.length:Int) - 1 - 0+1) (by omega)
  exact ⟨(at' % ((Y.length:Int) - 1 - 0+1)).toNat,by omega,by omega⟩
 rw [hk]
 simp only [↓vcPre,↓z0,↓reduceIte,vcPost,vcStd,Nat.reduceEqDiff,reduceCtorEq,Nat.reduceAdd,Nat.reduceLeDiff,Int.reduceLT,Int.reduceLE,↓u_setN]
 refine (c16 how 0 2 hw (by omega) (by omega) (by omega)).Q ?_
 obtain ⟨m,hm,hm2⟩:∃ m:Int,(0:Int)+how % (2 - 0+1)=m∧(m=0∨m=1∨m=2):=by
  refine ⟨_,rfl,?_⟩
  omega
 rw [hm]
 simp only [↓vcPre,↓z0,↓reduceIte,vcPost,vcStd,Nat.reduceEqDiff,reduceCtorEq,Nat.reduceAdd,Nat.reduceLeDiff,Int.reduceLT,Int.reduceLE,↓u_setN]
 have fin:∀ (yv:AV) (Z:List Int) (t:Store),Rd 1 t (Z.map cB) yv→Z.length≤10000→U8s Z→Store.sub σ t→∀ (n:Env→Store→Prop) (xx:Nat→Env→Store→Prop),bwp Tryz.prog Tsu.t3_71 [(11,yv)] t n (fun e τ=>e.res τ Tsu.F3.slots=some (.bool true)∧Store.sub σ τ) xx:=by
  intro yv Z t h1 h2 h3 h4 n xx
  simp only [Tsu.t3_71]
  simp only [↓vcPre,↓z0,↓reduceIte,vcPost,vcStd,Nat.reduceEqDiff,reduceCtorEq,Nat.reduceAdd,Nat.reduceLeDiff,Int.reduceLT,Int.reduceLE,↓u_setN]
  refine (s15 h1 (by omega) h3).Q ?_
  rintro r1 t' ⟨rfl,rfl⟩
  simp only [↓vcPre,↓z0,↓reduceIte,vcPost,vcStd,Nat.reduceEqDiff,reduceCtorEq,Nat.reduceAdd,Nat.reduceLeDiff,Int.reduceLT,Int.reduceLE,↓u_setN]
  refine c17.Q ?_
  simp only [↓vcPre,↓z0,↓reduceIte,vcPost,vcStd,Nat.reduceEqDiff,reduceCtorEq,Nat.reduceAdd,Nat.reduceLeDiff,Int.reduceLT,Int.reduceLE,↓u_setN]
  exact ⟨rfl,h4⟩
 refine ⟨fun e0 => ?_,fun e0=>⟨fun e1 => ?_,fun e1 => ?_⟩⟩
 ·rcases hy5 with ⟨hn,_⟩ | ⟨g,rfl,hg,hh⟩
  ·have:=List.map_eq_nil_iff.1 hn
   subst this
   simp at hk2
  ·have hkl:(Y.map cB)[k]? = some [.int .u8 Y[k]]:=by rw [List.getElem?_map,List.getElem?_eq_getElem hk2];rfl
   have hkm:(k:Int)<((Y.map cB).length:Int):=by rw [List.length_map];omega
   simp only [z33,hkm,hh,↓vcPre,↓z0,↓reduceIte,vcPost,vcStd,Nat.reduceEqDiff,reduceCtorEq,Nat.reduceAdd,Nat.reduceLeDiff,Int.reduceLT,Int.reduceLE,↓u_setN]
   refine ⟨hk2,by omega,by simp [cB],?_⟩
   simp only [cB,↓vcPre,↓z0,↓reduceIte,vcPost,vcStd,Nat.reduceEqDiff,reduceCtorEq,Nat.reduceAdd,Nat.reduceLeDiff,Int.reduceLT,Int.reduceLE,↓u_setN]
   refine ⟨hk2,by omega,?_⟩
   have hz:0≤bitInt .xor .u8 (Y[0+k]'(by omega)) turn∧bitInt .xor .u8 (Y[0+k]'(by omega)) turn<256:=by
    have e:∀ a b:Int,bitInt .xor .u8 a b=IntKind.u8.wrap ((BitVec.ofInt (IntKind.bits .u8) a ^^^ BitVec.ofInt (IntKind.bits .u8) b).toNat:Int):=fun _ _=>rfl
    rw [e,u8w]
    omega
   generalize bitInt .xor .u8 (Y[0+k]'(by omega)) turn=z at hz ⊢
   rw [show 0+k=k by omega,show [AV.int .u8 z]=cB z from rfl,←List.map_set]
   have hR:Rd 1 (s5.set g (.arr 1 ((Y.set k z).map cB))) ((Y.set k z).map cB) (.os g 1 0 ((Y.set k z).map cB).length):=Rd.os (Store.set_same _ _ _)
   rw [List.length_map,List.length_set] at hR
   rw [List.length_map] at *
   exact fin _ (Y.set k z) _ hR (by rw [List.length_set];omega) (fun x hx=>by
    rcases List.mem_or_eq_of_mem_set hx with h | h
    ·exact hyu x h
    ·rw [h];exact hz) (za σ5 (zl sT hg)) _ _
 ·obtain ⟨w,hw1,hw2⟩:=hyr5.slice (lo:=0) (hi:=k) (by omega) (by simp;omega)
  have hw1':pSlice 1 y 0 (some (k:Int))=some w:=hw1
  rw [hw1',y6]
  rw [List.drop_zero,←List.map_take] at hw2
  exact fin w (Y.take k) s5 hw2 (by simp only [List.length_take];omega) (hyu.take k) σ5 _ _
 ·refine Own.appM (τ:=σ) σ5 (hy5.weak sT) (hyr5.1 _ (Store.sub_refl _)) (by simp;omega) fun v3 w3 hu3 ho3 => ?_
  have ho3':Own 1 σ ((Y++Y).map cB) v3 w3:=by simpa using ho3
  exact fin v3 (Y++Y) w3 (Rd.own ho3') (by simp only [List.length_append];omega) (hyu.append hyu) hu3 _ _
end Go.Am
namespace Go.Am
open Go.Proofs
theorem zdl (a:At) (ha:I64 a.org∧okNums a) (b:List Int) (_:Small b) (hb:U8s b) (at':Int) (h1:I64 at') (t:Int) (ht:0≤t∧t<256) (how:Int) (h2:I64 how):Pur Tryz.prog 3 [.agg a.c,.sl 1 (b.map cB),.int .i64 at',.int .u8 t,.int .i64 how] (.bool true):=z7a a ha.1 b hb at' h1 t ht how h2
end Go.Am
