/- A part of the proof: a logic for calls over plain values, and the functions that the law reaches, each walked once. -/
import Derived.Test.YtplkahhkogncjaaGreatQB10
import Derived.Below
import Derived.Laws.AppendOwn
set_option linter.unusedVariables false
set_option linter.unusedSimpArgs false
set_option linter.unusedSectionVars false
namespace Go.Am
open Go.Proofs Go.Sort
theorem z9y:∀ m:Fin 256,Tst.str0[m.val]? = some (UInt8.ofNat (bitsLen m.val)):=by decide+kernel
theorem z9j (m:Nat) (h:m<256):pv .idxs [.str Tst.str0,.int .u8 (m:Int)]=some (.int .u8 (bitsLen m:Nat)):=by
 have h1:=z9y ⟨m,h⟩
 have h2:bitsLen m≤8:=(bitsLen_le_iff m 8).2 (by omega)
 simp only [pv,pIdxs,Int.natCast_nonneg,if_true,Int.toNat_natCast]
 rw [h1]
 simp only [Option.map_some,Option.some.injEq,AV.int.injEq,true_and,UInt8.toNat_ofNat']
 omega
theorem zg2 (x:Nat) (hx:x<18446744073709551616):Pur Tryz.prog 233 [.int .u64 x] (.int .i64 (bitsLen x:Nat)):=by
 refine zn Tst.F233 (by simp [Tst.F233,Fn.mkX]) fun σ => ?_
 simp only [Tst.F233,Fn.mkX]
 simp only [Tst.b233]
 have s32:shrInt .u64 (x:Int) 32=((x / 4294967296:Nat):Int):=qq x 32 (by decide)
 have s16:∀ y:Nat,shrInt .u64 (y:Int) 16=((y / 65536:Nat):Int):=fun y=>qq y 16 (by decide)
 have s8:∀ y:Nat,shrInt .u64 (y:Int) 8=((y / 256:Nat):Int):=fun y=>qq y 8 (by decide)
 have fin:∀ (y n:Nat),y<256→n≤56→IntKind.i64.wrap ((n:Int)+IntKind.i64.wrap ((bitsLen y:Nat):Int))=((n+bitsLen y:Nat):Int):=fun y n hy hn=>by
  have:=(bitsLen_le_iff y 8).2 (by omega)
  rw [z5l (by omega),show ((n:Int)+((bitsLen y:Nat):Int))=((n+bitsLen y:Nat):Int) by omega,z5l (by omega)]
 have leaf:∀ (y n:Nat) (N:Int),bitsLen x=n+bitsLen y→y<256→n≤56→N=(n:Int) →
  wit (pv PK.idxs [AV.str Tst.str0,AV.int IntKind.u8 (IntKind.u8.wrap (y:Int))]) fun a =>
   wit (pv (PK.conv IntKind.i64) [a]) fun a=>wit (pv (PK.bin BinOp.add) [AV.int IntKind.i64 N,a]) fun a=>a=AV.int IntKind.i64 (bitsLen x:Nat):=by
  intro y n N e hy hn hN
  subst hN
  rw [zh0 hy,z9j y hy]
  simp only [yf,z6n,z90]
  rw [fin y n hy hn,e]
 have d32:(4294967296:Int)≤x→bitsLen x=32+bitsLen (x / 4294967296):=fun h=>vw (k:=32) (by omega)
 have d16:∀ y:Nat,(65536:Int)≤y→bitsLen y=16+bitsLen (y / 65536):=fun y h=>vw (k:=16) (by omega)
 have d8:∀ y:Nat,(256:Int)≤y→bitsLen y=8+bitsLen (y / 256):=fun y h=>vw (k:=8) (by omega)
 simp only [s32,s16,s8,↓vcPre,↓z0,↓reduceIte,vcPost,vcStd,Nat.reduceEqDiff,reduceCtorEq,Nat.reduceAdd,Nat.reduceLeDiff,Int.reduceLT,Int.reduceLE,↓u_setN]
 have a1:IntKind.i64.wrap (IntKind.i64.wrap (32+16)+8)=((56:Nat):Int):=by decide
 have a2:IntKind.i64.wrap (32+16)=((48:Nat):Int):=by decide
 have a3:IntKind.i64.wrap (32+8)=((40:Nat):Int):=by decide
 have a4:IntKind.i64.wrap (IntKind.i64.wrap (0+16)+8)=((24:Nat):Int):=by decide
 have a5:IntKind.i64.wrap (0+16)=((16:Nat):Int):=by decide
 have a6:IntKind.i64.wrap (0+8)=((8:Nat):Int):=by decide
 refine ⟨fun h1=>⟨fun h2=>⟨fun h3 => ?_,fun h3 => ?_⟩,fun h2=>⟨fun h3 => ?_,fun h3 => ?_⟩⟩,fun h1=>⟨fun h2=>⟨fun h3 => ?_,fun h3 => ?_⟩,fun h2=>⟨fun h3 => ?_,fun h3 => ?_⟩⟩⟩
 ·exact leaf _ 56 _ (by have e1:=d32 h1;have e2:=d16 _ h2;have e3:=d8 _ h3;omega) (by omega) (by omega) a1
 ·exact leaf _ 48 _ (by have e1:=d32 h1;have e2:=d16 _ h2;omega) (by omega) (by omega) a2
 ·exact leaf _ 40 _ (by have e1:=d32 h1;have e3:=d8 _ h3;omega) (by omega) (by omega) a3
 ·exact leaf _ 32 _ (by have e1:=d32 h1;omega) (by omega) (by omega) rfl
 ·exact leaf _ 24 _ (by have e2:=d16 _ h2;have e3:=d8 _ h3;omega) (by omega) (by omega) a4
 ·exact leaf _ 16 _ (by have e2:=d16 _ h2;omega) (by omega) (by omega) a5
 ·exact leaf _ 8 _ (by have e3:=d8 _ h3;omega) (by omega) (by omega) a6
 ·exact leaf _ 0 _ (by omega) (by omega) (by omega) rfl
theorem zbj (x:Nat) (hx:x<18446744073709551616):Pur Tryz.prog 208 [.int .u64 x] (.int .i64 (bitsLen x:Nat)):=by
 refine zn Tst.F208 (by simp [Tst.F208,Fn.mkX]) fun σ => ?_
 simp only [Tst.F208,Fn.mkX,Tst.b208]
 simp only [↓vcPre,↓z0,↓reduceIte,vcPost,vcStd,Nat.reduceEqDiff,reduceCtorEq,Nat.reduceAdd,Nat.reduceLeDiff,Int.reduceLT,Int.reduceLE,↓u_setN]
 refine (zg2 x hx).Q ?_
 simp only [↓vcPre,↓z0,↓reduceIte,vcPost,vcStd,Nat.reduceEqDiff,reduceCtorEq,Nat.reduceAdd,Nat.reduceLeDiff,Int.reduceLT,Int.reduceLE,↓u_setN]
theorem zg3 (n:Nat) (hn:n<4611686018427387904):Pur Tryz.prog 242 [.int .i64 n] (.int .u64 (1 <<<bitsLen n:Nat)):=by
 refine zn Tst.F242 (by simp [Tst.F242,Fn.mkX]) fun σ => ?_
 simp only [Tst.F242,Fn.mkX,Tst.b242]
 have hb:bitsLen n≤62:=(bitsLen_le_iff n 62).2 (by omega)
 simp only [z15 (n:=n) (by omega),↓vcPre,↓z0,↓reduceIte,vcPost,vcStd,Nat.reduceEqDiff,reduceCtorEq,Nat.reduceAdd,Nat.reduceLeDiff,Int.reduceLT,Int.reduceLE,↓u_setN]
 refine (zbj n (by omega)).Q ?_
 simp only [z9w (bitsLen n) (by omega),↓vcPre,↓z0,↓reduceIte,vcPost,vcStd,Nat.reduceEqDiff,reduceCtorEq,Nat.reduceAdd,Nat.reduceLeDiff,Int.reduceLT,Int.reduceLE,↓u_setN]
 omega
theorem zgo (X:Nat) (hX:X<18446744073709551616) (σ:Store) (i:Nat) (hi:σ i=some (.box [.int .u64 X])) :
 ACalls Tryz.prog 243 [.ptr i 0] σ (fun r s=>r = .int .u64 (xorNextN X:Nat)∧s=σ.set i (.box [.int .u64 (xorNextN X:Nat)])):=by
 refine zk Tst.F243 (by simp [Tst.F243,Fn.mkX]) ?_
 simp only [Tst.F243,Fn.mkX,Tst.b243]
 obtain ⟨A,hA⟩:∃ A:Nat,A=X ^^^ (X*8192 % 18446744073709551616):=⟨_,rfl⟩
 obtain ⟨B,hB⟩:∃ B:Nat,B=A ^^^ (A / 128):=⟨_,rfl⟩
 obtain ⟨C,hC⟩:∃ C:Nat,C=B ^^^ (B*131072 % 18446744073709551616):=⟨_,rfl⟩
 have lA:A<18446744073709551616:=by rw [hA];exact Nat.xor_lt_two_pow (n:=64) (by omega) (by omega)
 have lB:B<18446744073709551616:=by rw [hB];exact Nat.xor_lt_two_pow (n:=64) (by omega) (by omega)
 have e1:bitInt .xor .u64 (X:Int) (shlInt .u64 (X:Int) 13)=(A:Int):=by
  have:=z4a X 13 (by decide)
  rw [show ((13:Nat):Int)=13 from rfl] at this
  rw [this,z1j _ _ hX (by omega),hA]
 have e2:bitInt .xor .u64 (A:Int) (shrInt .u64 (A:Int) 7)=(B:Int):=by
  have:=qq A 7 (by decide)
  rw [show ((7:Nat):Int)=7 from rfl] at this
  rw [this,z1j _ _ lA (by omega),hB]
 have e3:bitInt .xor .u64 (B:Int) (shlInt .u64 (B:Int) 17)=(C:Int):=by
  have:=z4a B 17 (by decide)
  rw [show ((17:Nat):Int)=17 from rfl] at this
  rw [this,z1j _ _ lB (by omega),hC]
 have hv:xorNextN X=C:=by unfold xorNextN;simp only [];rw [←hA,←hB,←hC]
 rw [hv]
 clear hA hB hC hv
 simp only [hi,e1,e2,e3,Store.set_set,↓vcPre,↓z0,↓reduceIte,vcPost,vcStd,Nat.reduceEqDiff,reduceCtorEq,Nat.reduceAdd,Nat.reduceLeDiff,Int.reduceLT,Int.reduceLE,↓u_setN]
 exact EndQ.to _ _ rfl (Store.sub_refl _) ⟨rfl,rfl⟩
end Go.Am
namespace Go.Am
open Go.Proofs Go.Sort
def NU:SN:=⟨223,227,241,224,230,231,255,245,244,226,228,225,207,229,174,242,243,208⟩
theorem zdm (h1:∀ x y:Int,Pur Tryz.prog 229 [.int .u32 x,.int .u32 y] (.bool (decide (cfU x y<0)))) (h2:∀ (x:Nat) (hx:x<18446744073709551616),Pur Tryz.prog 208 [.int .u64 x] (.int .i64 (bitsLen x:Nat)))
 (h3:∀ (n:Nat) (hn:n<4611686018427387904),Pur Tryz.prog 242 [.int .i64 n] (.int .u64 (1 <<<bitsLen n:Nat)))
 (h4:∀ (X:Nat) (hX:X<18446744073709551616) (σ:Store) (i:Nat) (hi:σ i=some (.box [.int .u64 X])),ACalls Tryz.prog 243 [.ptr i 0] σ (fun r s=>r = .int .u64 (xorNextN X:Nat)∧s=σ.set i (.box [.int .u64 (xorNextN X:Nat)]))):SH Tryz.prog NU .u32 where
 ins:=xq 49 Tryz.f223 _ Tryz.func223 (by decide) rfl Tryz.ntmps223 (by kernel_rfl) (by kernel_rfl) (by decide)
 rev:=xq 32 Tryz.f227 _ Tryz.func227 (by decide) rfl Tryz.ntmps227 (by kernel_rfl) (by kernel_rfl) (by decide)
 sift:=xq 76 Tryz.f241 _ Tryz.func241 (by decide) rfl Tryz.ntmps241 (by kernel_rfl) (by kernel_rfl) (by decide)
 heap:=xq 56 Tryz.f224 _ Tryz.func224 (by decide) rfl Tryz.ntmps224 (by kernel_rfl) (by kernel_rfl) (by decide)
 parteq:=xq 84 Tryz.f230 _ Tryz.func230 (by decide) rfl Tryz.ntmps230 (by kernel_rfl) (by kernel_rfl) (by decide)
 part:=xq 168 Tryz.f231 _ Tryz.func231 (by decide) rfl Tryz.ntmps231 (by kernel_rfl) (by kernel_rfl) (by decide)
 ord2:=xq 28 Tryz.f255 _ Tryz.func255 (by decide) rfl Tryz.ntmps255 (by kernel_rfl) (by kernel_rfl) (by decide)
 med:=xq 36 Tryz.f245 _ Tryz.func245 (by decide) rfl Tryz.ntmps245 (by kernel_rfl) (by kernel_rfl) (by decide)
 medadj:=xq 15 Tryz.f244 _ Tryz.func244 (by decide) rfl Tryz.ntmps244 (by kernel_rfl) (by kernel_rfl) (by decide)
 piv:=xq 57 Tryz.f226 _ Tryz.func226 (by decide) rfl Tryz.ntmps226 (by kernel_rfl) (by kernel_rfl) (by decide)
 partins:=xq 133 Tryz.f228 _ Tryz.func228 (by decide) rfl Tryz.ntmps228 (by kernel_rfl) (by kernel_rfl) (by decide)
 brk:=xq 65 Tryz.f225 _ Tryz.func225 (by decide) rfl Tryz.ntmps225 (by kernel_rfl) (by kernel_rfl) (by decide)
 pdq:=xq 134 Tryz.f207 _ Tryz.func207 (by decide) rfl Tryz.ntmps207 (by kernel_rfl) (by kernel_rfl) (by decide)
 sort:=xq 11 Tryz.f174 _ Tryz.func174 (by decide) rfl Tryz.ntmps174 (by kernel_rfl) (by kernel_rfl) (by decide)
 less:=h1
 len:=h2
 npow:=h3
 next:=h4
end Go.Am
namespace Go.Am
open Go.RowKit
def SeqHolds (P:Program) (FA FV:Nat) (k:IntKind) (TE:TypeId) (byt:Nat):Prop :=
 ∀ (Bs oB b off cap:Nat) (pa:Option Addr) (zs:List Int) (w:World),zs.length*byt≤140737488355328→Bs<w.heap.size→(0<zs.length→pa=some ⟨b,off,none⟩∧b<w.heap.size) →
   w.cell? ⟨Bs,oB,none⟩=some (.slice pa zs.length cap)→(∀ j,j<zs.length→w.cell? ⟨b,off+j,none⟩=some (.int k (zs[j]?.getD 0))) →
   Calls P FA #[.slice none 0 0,.func (.func FV) #[] #[.pointer (some ⟨Bs,oB,none⟩)]] w fun e W'=>∃ v,e = .returned v ∧
    W'.ownsRow w.heap.size TE 1 v zs.length (zs.map (Value.int k))∧(v = .slice none 0 0↔zs=[])∧Below w.heap.size w W'
theorem Sim.below {G:Gh} {σ:Store} {w w':World} (h:Sim G σ w) (hb:Below w.heap.size w w'):Ext G σ w G σ w'∧Sim G σ w':=by
 have hx:Ext G σ w G σ w' :=
  { tape:=hb.tape,os:=hb.os,output:=hb.output,size:=hb.size
    keep:=fun b hb' _=>hb.block b hb'
    shape:=fun b hb'=>by simp only [World.shape?,hb.block b hb']
    ρ:=fun _ _ h=>h,I:=fun _ h=>h,newI:=fun _ h => .inl h,newOwn:=fun _ h => .inl h,newId:=fun _ o h => .inl ⟨o,h⟩ }
 refine ⟨hx,?_⟩
 exact
  { lt:=fun b hb'=>Nat.lt_of_lt_of_le (h.lt b hb') hb.size,fin:=h.fin,blk:=fun i b base h'=>Nat.lt_of_lt_of_le (h.blk i b base h') hb.size
    used:=fun i o ho=>by
     obtain ⟨b,base,h1,h2⟩:=h.used i o ho
     exact ⟨b,base,h1,h2.grow (hb.block b (h.blk i b base h1)) fun a v hv=>hx.vrel h hv⟩
    inj:=h.inj,apart:=h.apart }
theorem z3t {w:World} {b o:Nat} {v:Value} (h:w.cell? ⟨b,o,none⟩=some v):b<w.heap.size:=by
 unfold World.cell? at h
 dsimp only at h
 split at h
 ·rename_i hh
  exact (Array.getElem?_eq_some_iff.1 hh).1
 ·cases h
end Go.Am
namespace Go.Am
open Go.RowKit
theorem z83 {P:Program} {FA FV:Nat} {k:IntKind} {TE:TypeId} {byt:Nat} (hent:Ent P FA) (H:SeqHolds P FA FV k TE byt) {σ:Store} {id:Nat} {S:AV} {zs:List Int} (hbox:σ id=some (.box [S]))
 (hS:slc σ 1 S=some (zs.map fun n=>[.int k n])) (hle:zs.length*byt≤140737488355328) :
 ACalls P FA [.nils,.fn FV [.ptr id 0]] σ (fun a s=>(zs=[]∧a = .nils∧s=σ)∨(zs≠[]∧∃ g,σ g=none∧a = .os g 1 0 zs.length∧s=σ.set g (.arr 1 (zs.map fun n=>[.int k n])))):=by
 refine ⟨hent,fun G w vs hs hvs => ?_⟩
 cases hvs with
 | cons hv1 hvs =>
 cases hvs with
 | cons hv2 hvs =>
 cases hvs
 obtain rfl:=hv1.of_nils
 obtain ⟨cs,rfl,hcl,hcv⟩:=hv2.of_fn
 match cs,hcl with
 | [c],_ =>
   have hc:=hcv 0 (by simp) (by simp)
   simp only [List.getElem_cons_zero] at hc
   obtain ⟨b0,base,hb0,rfl⟩:=hc.of_ptr
   obtain ⟨b0',base',hb0',ho⟩:=hs.used _ _ hbox
   rw [hb0] at hb0';cases hb0'
   cases ho with
   | box hh hsz hf hv =>
     rename_i cs0 ty0
     simp only [List.length_cons,List.length_nil] at hsz
     have hvS:=hv 0 (by simp)
     simp only [List.getElem_cons_zero] at hvS
     generalize hvs0:cs0.getD (base+0) undef=vS at hvS
     have hcell0:w.cell? ⟨b0,base+0,none⟩=some vS:=by
      rw [xg hh,←hvs0,Array.getD_eq_getD_getElem?,Array.getElem?_eq_getElem (by omega)];rfl
     obtain ⟨pb,cap,rfl,hcap,hcells⟩:=z1h hs hvS hS
     have hlen:(zs.map fun n=>[AV.int k n]).length=zs.length:=by simp
     have hb0lt:=z3t hcell0
     obtain ⟨b,off,hpa,hcs⟩:∃ b off,(0<zs.length→pb=some ⟨b,off,none⟩∧b<w.heap.size)∧∀ j,j<zs.length→w.cell? ⟨b,off+j,none⟩=some (.int k (zs[j]?.getD 0)):=by
      rcases hcells with h0 | ⟨blk,o,hpb,f,⟨_,_,hf3⟩,hcc⟩
      ·have hz:zs.length=0:=by rw [←hlen,h0];rfl
       exact ⟨0,0,fun hp=>by omega,fun j hj=>by omega⟩
      ·have key:∀ j,j<zs.length→w.cell? ⟨blk,o+j,none⟩=some (.int k (zs[j]?.getD 0)):=fun j hj=>by
        have h1:=hcc j (by omega)
        have hjx:j<(zs.map fun n=>[AV.int k n]).length:=by omega
        have h2:=hf3 j 0 hjx (by simp)
        simp only [List.getElem_map,List.getElem_cons_zero,Nat.mul_one,Nat.add_zero] at h2
        rw [h1,h2.of_int,List.getElem?_eq_getElem hj];rfl
       exact ⟨blk,o,fun hp=>⟨hpb,z3t (key 0 hp)⟩,key⟩
     have hcall:=H b0 (base+0) b off cap pb zs w hle hb0lt hpa (by rw [hcell0,hlen]) hcs
     refine hcall.mono ?_
     rintro e w' ⟨v,rfl,hrow,hnil,hbel⟩
     by_cases hz:zs=[]
     ·obtain ⟨g1,g2⟩:=hs.below hbel
      exact ⟨v,.nils,G,σ,rfl,g1,g2,by rw [hnil.2 hz];exact .nils,.inl ⟨hz,rfl,rfl⟩⟩
     ·obtain ⟨id',hidρ,hidσ⟩:=hs.fresh
      obtain ⟨hrl,hrow⟩:=hrow
      rcases hrow with ⟨hv0,_⟩ | ⟨g,cap',cur,rfl,hgle,hgc,hncap,hcapm,hcur,htake⟩
      ·exact (hz (hnil.1 hv0)).elim
      ·have hglt:g<w'.heap.size:=(Array.getElem?_eq_some_iff.1 hgc).1
       obtain ⟨G',g1,g2,g3⟩:=hs.adopt (o := .arr 1 (zs.map fun n=>[.int k n])) hidρ hidσ hgle hglt hbel.size hbel.tape hbel.os hbel.output hbel.block (fun G' _ _ _=>by
        refine .arr (cs:=cur) hgc (by simp;omega) (fun e he => ?_) (fun e he => ?_) (fun i j hi hj => ?_)
        ·obtain ⟨n,_,rfl⟩:=List.mem_map.1 he;rfl
        ·obtain ⟨n,_,rfl⟩:=List.mem_map.1 he
         intro c hc;simp at hc;subst hc;rfl
        ·have hi':i<zs.length:=by simpa using hi
         simp only [List.getElem_map,List.length_cons,List.length_nil] at hj ⊢
         have hj0:j=0:=by omega
         subst hj0
         simp only [List.getElem_cons_zero]
         have h5:cur[i]? = some (.int k zs[i]):=by
          have:=congrArg (fun l:List Value=>l[i]?) htake
          simp only [Nat.mul_one,List.getElem?_take_of_lt hi',List.getElem?_map,List.getElem?_eq_getElem hi',Option.map_some,Array.getElem?_toList] at this
          exact this
         have:cur.getD (0+(i*1+0)) undef = .int k zs[i]:=by
          rw [Array.getD_eq_getD_getElem?,show 0+(i*1+0)=i by omega,h5];rfl
         rw [this];exact .int _ _)
       refine ⟨_,.os id' 1 0 zs.length,G',_,rfl,g1,g2,?_,.inr ⟨hz,id',hidσ,rfl,rfl⟩⟩
       have hsh:w'.shape? g=some (TE,cur.size):=by simp only [World.shape?,hgc]
       have:=VRel.os (G:=G') (w:=w') (esz:=1) (off:=0) (len:=zs.length) (c:=cap') g3 hncap ⟨TE,cur.size,hsh,by omega⟩
       simpa using this
end Go.Am
