/- A part of the proof: a logic for calls over plain values, and the functions that the law reaches, each walked once. -/
import Derived.Test.YtplkahhkogncjaaGreatQB16
set_option linter.unusedVariables false
set_option linter.unusedSimpArgs false
set_option linter.unusedSectionVars false
namespace Go.Am.Ts31
open Go.Proofs Go.Am.B
def t42_118:BC := .seq (z [⟨some 118,none,.load (.ld 9 true),[.t 11]⟩,g 119 81 [.t 118],u 120 .not 119,m 121 120,⟨some 122,some (121,false),.load (.ld 9 true),[.t 11]⟩,⟨some 123,some (121,false),.loud (.call 87),[.t 122]⟩,⟨some 124,some (121,false),.pure (.len),[.t 123]⟩,⟨some 125,some (121,false),.pure (.bin .gtr),[.t 124,.c (.int .i64 4068)]⟩,⟨some 126,none,.pick,[.t 121,.c (.bool true),.t 125]⟩] [8,11,126] (.cond (.t 126) (z [p 127 (.build [(.int .i64 0),.nils,(.int .u32 0),(.bool false),(.int .u32 0),(.bool false),(.int .u32 0),(.bool false),.nils] []) [],s 9 8 127,k 9 (.bool false)] [8,9] .ret) .skip)) (z [⟨some 128,none,.load (.ld 9 true),[.t 11]⟩,s 9 8 128,k 9 (.bool true)] [8,9] .ret)
def t42_98:BC:=z [f 98 3 4,m 100 1,f 104 0 4,l 99 1 98,x 101 4 99 100,f 102 3 101,l 103 1 102,l 105 1 104,⟨some 106,none,.load (.ld 2 true),[.t 6]⟩,⟨some 107,none,.load (.ld 9 true),[.t 11]⟩,g 108 86 [.t 103,.t 105,.t 106,.t 107],m 97 108,e 109 0 97,e 110 1 97,s 9 11 109,m 12 110] [8,10,11,12] (.seq (z [m 111 12,u 112 .not 111] [8,10,11,112] (.cond (.t 112) (z [p 113 (.build [(.int .i64 0),.nils,(.int .u32 0),(.bool false),(.int .u32 0),(.bool false),(.int .u32 0),(.bool false),.nils] []) [],s 9 8 113,k 9 (.bool false)] [8,9] .ret) .skip)) (.seq (z [m 114 10,u 115 .not 114] [8,11,115] (.cond (.t 115) (.ops [f 116 5 11,⟨none,none,.loud (.st 1),[.t 116,.c (.bool false)]⟩,f 117 6 11,⟨none,none,.loud (.st 1),[.t 117,.c (.int .u32 0)]⟩] [8,11]) .skip)) t42_118))
def t42_76:BC:=z [f 76 4 7,⟨some 77,none,.load (.ld 9 true),[.t 76]⟩,g 78 83 [.t 77],⟨some 11,none,.alloc (.alloc [(.int .i64 0),.nils,(.int .u32 0),(.bool false),(.int .u32 0),(.bool false),(.int .u32 0),(.bool false),.nils]),[]⟩,s 9 11 78] [1,4,6,8,10,11] (.seq (z [m 79 10] [1,4,6,8,10,11,79] (.cond (.t 79) (z [⟨some 80,none,.load (.ld 9 true),[.t 11]⟩,g 81 84 [.t 80],f 82 6 11,s 1 82 81] [1,4,6,8,10,11] (.ops [f 83 5 11,⟨none,none,.loud (.st 1),[.t 83,.c (.bool true)]⟩] [1,4,6,8,10,11])) (z [f 84 1 11,l 85 1 84,f 86 0 4,l 87 1 86,g 88 85 [.t 85,.t 87,.c (.int .i64 1)],f 89 1 11,s 1 89 88] [1,4,6,8,10,11] (z [f 90 1 4,l 91 1 90,f 92 2 11,s 1 92 91] [1,4,6,8,10,11] (.ops [f 93 3 11,⟨none,none,.loud (.st 1),[.t 93,.c (.bool false)]⟩,f 94 4 11,⟨none,none,.loud (.st 1),[.t 94,.c (.int .u32 0)]⟩,f 95 5 11,⟨none,none,.loud (.st 1),[.t 95,.c (.bool false)]⟩,f 96 6 11,⟨none,none,.loud (.st 1),[.t 96,.c (.int .u32 0)]⟩] [1,4,6,8,10,11]))))) t42_98)
def b42:BC:=z [⟨some 4,none,.alloc (.box),[.t 0]⟩,⟨some 6,none,.alloc (.box),[.t 2]⟩,⟨some 7,none,.alloc (.box),[.t 3]⟩,⟨some 8,none,.alloc (.alloc [(.int .i64 0),.nils,(.int .u32 0),(.bool false),(.int .u32 0),(.bool false),(.int .u32 0),(.bool false),.nils]),[]⟩,k 9 (.bool false)] [1,4,6,7,8] (.seq (z [⟨some 13,none,.load (.ld 7 true),[.t 4]⟩,g 14 79 [.t 13],c 15 .neq 14 0,m 16 15,⟨some 17,some (16,false),.pure (.mov),[.t 1]⟩,⟨some 18,some (16,false),.pure (.bin .lss),[.t 17,.c (.int .i64 0)]⟩,⟨some 19,none,.pick,[.t 16,.c (.bool true),.t 18]⟩,m 20 19,⟨some 21,some (20,false),.pure (.mov),[.t 1]⟩,⟨some 22,some (20,false),.pure (.fld 3),[.t 4]⟩,⟨some 23,some (20,false),.load (.ld 1 false),[.t 22]⟩,⟨some 24,some (20,false),.pure (.len),[.t 23]⟩,⟨some 25,some (20,false),.pure (.bin .geq),[.t 21,.t 24]⟩,⟨some 26,none,.pick,[.t 20,.c (.bool true),.t 25]⟩,m 27 26,⟨some 28,some (27,false),.load (.ld 2 true),[.t 6]⟩,⟨some 29,some (27,false),.loud (.call 80),[.t 28]⟩,⟨some 30,some (27,false),.pure (.not),[.t 29]⟩,⟨some 31,none,.pick,[.t 27,.c (.bool true),.t 30]⟩,m 32 31,⟨some 33,some (32,false),.pure (.fld 4),[.t 7]⟩,⟨some 34,some (32,false),.load (.ld 9 true),[.t 33]⟩,⟨some 35,some (32,false),.loud (.call 81),[.t 34]⟩,⟨some 36,some (32,false),.pure (.not),[.t 35]⟩,⟨some 37,none,.pick,[.t 32,.c (.bool true),.t 36]⟩,m 38 37,⟨some 39,some (38,false),.pure (.fld 0),[.t 7]⟩,⟨some 40,some (38,false),.load (.ld 1 false),[.t 39]⟩,⟨some 41,some (38,false),.pure (.mov),[.t 1]⟩,⟨some 42,some (38,false),.pure (.bin .eql),[.t 40,.t 41]⟩,⟨some 43,none,.pick,[.t 38,.c (.bool true),.t 42]⟩] [1,4,6,7,8,43] (.cond (.t 43) (z [p 44 (.build [(.int .i64 0),.nils,(.int .u32 0),(.bool false),(.int .u32 0),(.bool false),(.int .u32 0),(.bool false),.nils] []) [],s 9 8 44,k 9 (.bool false)] [8,9] .ret) .skip)) (z [f 45 3 4,m 47 1,f 51 0 4,l 46 1 45,x 48 4 46 47,f 49 0 48,l 50 1 49,l 52 1 51,b 53 .eql 50 52,m 10 53] [1,4,6,7,8,10] (.seq (z [f 54 3 7,l 55 1 54,m 56 55,⟨some 57,some (56,true),.pure (.mov),[.t 10]⟩,⟨some 58,none,.pick,[.t 56,.t 57,.c (.bool false)]⟩,m 59 58,⟨some 60,some (59,false),.pure (.fld 4),[.t 7]⟩,⟨some 61,some (59,false),.pure (.fld 8),[.t 60]⟩,⟨some 62,some (59,false),.load (.ld 1 false),[.t 61]⟩,⟨some 63,some (59,false),.loud (.call 82),[.t 62,.c (.int .u32 4294967042)]⟩,⟨some 64,none,.pick,[.t 59,.c (.bool true),.t 63]⟩,m 65 64,⟨some 66,some (65,false),.pure (.fld 4),[.t 7]⟩,⟨some 67,some (65,false),.pure (.fld 8),[.t 66]⟩,⟨some 68,some (65,false),.load (.ld 1 false),[.t 67]⟩,⟨some 69,some (65,false),.loud (.call 82),[.t 68,.c (.int .u32 4294967041)]⟩,⟨some 70,some (65,false),.pure (.mov),[.t 69]⟩,⟨some 71,some (70,true),.pure (.mov),[.t 10]⟩,⟨some 72,some (70,true),.pure (.not),[.t 71]⟩,⟨some 73,some (65,false),.pick,[.t 70,.t 72,.c (.bool false)]⟩,⟨some 74,none,.pick,[.t 65,.c (.bool true),.t 73]⟩] [1,4,6,7,8,10,74] (.cond (.t 74) (z [p 75 (.build [(.int .i64 0),.nils,(.int .u32 0),(.bool false),(.int .u32 0),(.bool false),(.int .u32 0),(.bool false),.nils] []) [],s 9 8 75,k 9 (.bool false)] [8,9] .ret) .skip)) t42_76)))
def F42:Fn Tryz.prog 42:=Fn.mkX false b42 [.c 8 9 true,.t 9] 129 Tryz.f42 _ Tryz.func42 (by decide) rfl Tryz.ntmps42 (by kernel_rfl) (by kernel_rfl)
def t79_101:BC:=z [f 101 0 4,l 102 1 101,p 103 (.bin .lss) [.t 102,.c (.int .u32 1)],m 104 103,⟨some 105,some (104,false),.pure (.fld 0),[.t 4]⟩,⟨some 106,some (104,false),.load (.ld 1 false),[.t 105]⟩,⟨some 107,some (104,false),.pure (.bin .gtr),[.t 106,.c (.int .u32 65535)]⟩,⟨some 108,none,.pick,[.t 104,.c (.bool true),.t 107]⟩,m 109 108,⟨some 110,some (109,false),.pure (.fld 1),[.t 4]⟩,⟨some 111,some (109,false),.load (.ld 1 false),[.t 110]⟩,⟨some 112,some (109,false),.loud (.call 143),[.t 111]⟩,⟨some 113,some (109,false),.pure (.not),[.t 112]⟩,⟨some 114,none,.pick,[.t 109,.c (.bool true),.t 113]⟩,m 115 114,⟨some 116,some (115,false),.pure (.fld 2),[.t 4]⟩,⟨some 117,some (115,false),.load (.ld 1 false),[.t 116]⟩,⟨some 118,some (115,false),.loud (.call 144),[.t 117]⟩,⟨some 119,some (115,false),.pure (.not),[.t 118]⟩,⟨some 120,none,.pick,[.t 115,.c (.bool true),.t 119]⟩,m 121 120,⟨some 122,some (121,false),.pure (.fld 3),[.t 4]⟩,⟨some 123,some (121,false),.load (.ld 1 false),[.t 122]⟩,⟨some 124,some (121,false),.loud (.call 144),[.t 123]⟩,⟨some 125,some (121,false),.pure (.not),[.t 124]⟩,⟨some 126,none,.pick,[.t 121,.c (.bool true),.t 125]⟩] [1,3,126] (.cond (.t 126) (z [j 2 24] [2] .ret) .skip)
def t79_3:BC := .seq (z [j 3 0] [1,3] (.block 0 (.loop [1,3] (.seq (z [m 75 3,f 76 3 1,l 77 1 76,u 78 .len 77,b 79 .lss 75 78] [1,3,79] (.cond (.t 79) .skip (.exit 0))) (.seq (.block 1 (z [f 82 3 1,l 83 1 82,m 84 3,x 85 4 83 84,⟨some 86,none,.load (.ld 4 true),[.t 85]⟩,⟨some 4,none,.alloc (.alloc [(.int .u32 0),(.int .u32 0),.nils,.nils]),[]⟩,s 4 4 86] [1,3,4] (.seq (z [j 5 0] [1,3,4,5] (.block 2 (.loop [1,3,4,5] (.seq (z [m 87 5,m 88 3,b 89 .lss 87 88] [1,3,4,5,89] (.cond (.t 89) .skip (.exit 2))) (.seq (.block 3 (z [f 92 3 1,m 94 5,f 98 1 4,l 93 1 92,x 95 4 93 94,f 96 1 95,l 97 1 96,l 99 1 98,b 100 .eql 97 99] [1,3,4,5,100] (.cond (.t 100) (z [j 2 24] [2] .ret) .skip))) (.ops [m 90 5,c 91 .add 90 1,m 5 91] [1,3,4,5])))))) t79_101))) (.ops [m 80 3,c 81 .add 80 1,m 3 81] [1,3])))))) (z [j 2 0] [2] .ret)
def b79:BC:=z [⟨some 1,none,.alloc (.box),[.t 0]⟩,j 2 0] [1] (.seq (z [f 6 0 1,l 7 1 6,p 8 (.bin .lss) [.t 7,.c (.int .u32 1)],m 9 8,⟨some 10,some (9,false),.pure (.fld 0),[.t 1]⟩,⟨some 11,some (9,false),.load (.ld 1 false),[.t 10]⟩,⟨some 12,some (9,false),.pure (.bin .gtr),[.t 11,.c (.int .u32 65535)]⟩,⟨some 13,none,.pick,[.t 9,.c (.bool true),.t 12]⟩,m 14 13,⟨some 15,some (14,false),.pure (.fld 1),[.t 1]⟩,⟨some 16,some (14,false),.load (.ld 1 false),[.t 15]⟩,⟨some 17,some (14,false),.loud (.call 143),[.t 16]⟩,⟨some 18,some (14,false),.pure (.not),[.t 17]⟩,⟨some 19,none,.pick,[.t 14,.c (.bool true),.t 18]⟩,m 20 19,⟨some 21,some (20,false),.pure (.fld 2),[.t 1]⟩,⟨some 22,some (20,false),.load (.ld 1 false),[.t 21]⟩,⟨some 23,some (20,false),.pure (.bin .neq),[.t 22,.c (.int .i64 0)]⟩,⟨some 24,some (20,false),.pure (.mov),[.t 23]⟩,⟨some 25,some (24,true),.pure (.fld 2),[.t 1]⟩,⟨some 26,some (24,true),.load (.ld 1 false),[.t 25]⟩,⟨some 27,some (24,true),.pure (.bin .lss),[.t 26,.c (.int .i64 3)]⟩,⟨some 28,some (24,true),.pure (.mov),[.t 27]⟩,⟨some 29,some (28,false),.pure (.fld 2),[.t 1]⟩,⟨some 30,some (28,false),.load (.ld 1 false),[.t 29]⟩,⟨some 31,some (28,false),.pure (.bin .gtr),[.t 30,.c (.int .i64 65535)]⟩,⟨some 32,some (24,true),.pick,[.t 28,.c (.bool true),.t 31]⟩,⟨some 33,some (20,false),.pick,[.t 24,.t 32,.c (.bool false)]⟩,⟨some 34,none,.pick,[.t 20,.c (.bool true),.t 33]⟩,m 35 34,⟨some 36,some (35,false),.pure (.fld 4),[.t 1]⟩,⟨some 37,some (35,false),.load (.ld 1 false),[.t 36]⟩,⟨some 38,some (35,false),.pure (.bin .lss),[.t 37,.c (.int .i64 1)]⟩,⟨some 39,none,.pick,[.t 35,.c (.bool true),.t 38]⟩,m 40 39,⟨some 41,some (40,false),.pure (.fld 4),[.t 1]⟩,⟨some 42,some (40,false),.load (.ld 1 false),[.t 41]⟩,⟨some 43,some (40,false),.pure (.bin .gtr),[.t 42,.c (.int .i64 8)]⟩,⟨some 44,none,.pick,[.t 40,.c (.bool true),.t 43]⟩,m 45 44,⟨some 46,some (45,false),.pure (.fld 5),[.t 1]⟩,⟨some 47,some (45,false),.load (.ld 1 false),[.t 46]⟩,⟨some 48,some (45,false),.pure (.bin .lss),[.t 47,.c (.int .i64 1)]⟩,⟨some 49,none,.pick,[.t 45,.c (.bool true),.t 48]⟩,m 50 49,⟨some 51,some (50,false),.pure (.fld 5),[.t 1]⟩,⟨some 52,some (50,false),.load (.ld 1 false),[.t 51]⟩,⟨some 53,some (50,false),.pure (.bin .gtr),[.t 52,.c (.int .i64 8)]⟩,⟨some 54,none,.pick,[.t 50,.c (.bool true),.t 53]⟩,m 55 54,⟨some 56,some (55,false),.pure (.fld 6),[.t 1]⟩,⟨some 57,some (55,false),.load (.ld 1 false),[.t 56]⟩,⟨some 58,some (55,false),.pure (.bin .lss),[.t 57,.c (.int .i64 0)]⟩,⟨some 59,none,.pick,[.t 55,.c (.bool true),.t 58]⟩,m 60 59,⟨some 61,some (60,false),.pure (.fld 6),[.t 1]⟩,⟨some 62,some (60,false),.load (.ld 1 false),[.t 61]⟩,⟨some 63,some (60,false),.pure (.bin .gtr),[.t 62,.c (.int .i64 4096)]⟩,⟨some 64,none,.pick,[.t 60,.c (.bool true),.t 63]⟩] [1,64] (.cond (.t 64) (z [j 2 1] [2] .ret) .skip)) (.seq (z [f 65 3 1,l 66 1 65,u 67 .len 66,c 68 .lss 67 1,m 69 68,⟨some 70,some (69,false),.pure (.fld 3),[.t 1]⟩,⟨some 71,some (69,false),.load (.ld 1 false),[.t 70]⟩,⟨some 72,some (69,false),.pure (.len),[.t 71]⟩,⟨some 73,some (69,false),.pure (.bin .gtr),[.t 72,.c (.int .i64 4)]⟩,⟨some 74,none,.pick,[.t 69,.c (.bool true),.t 73]⟩] [1,74] (.cond (.t 74) (z [j 2 4] [2] .ret) .skip)) t79_3))
def F79:Fn Tryz.prog 79:=Fn.mkX false b79 [.t 2] 127 Tryz.f79 _ Tryz.func79 (by decide) rfl Tryz.ntmps79 (by kernel_rfl) (by kernel_rfl)
end Go.Am.Ts31
namespace Go.Am
open Go.Proofs Go.Sort
theorem c82 (L:List Int) (hl:L.length≤1000000) (n:Int):Pur Tryz.prog 82 [.sl 1 (L.map cU),.int .u32 n] (.bool (decide (n ∈ L))):=by
 refine zn Tst.F82 (by simp [Tst.F82,Fn.mkX]) fun σ => ?_
 simp only [Tst.F82,Fn.mkX,Tst.b82]
 simp only [↓vcPre,↓z0,↓reduceIte,vcPost,vcStd,Nat.reduceEqDiff,reduceCtorEq,Nat.reduceAdd,Nat.reduceLeDiff,Int.reduceLT,Int.reduceLE,↓u_setN]
 refine LoopQ.inv (S:=Nat) (fun k=>[(0,.sl 1 (L.map cU)),(1,.int .u32 n),(5,.int .i64 (k:Int))]) (fun _=>σ) (fun k=>k≤L.length∧n ∉ L.take k) (fun k=>L.length+1 - k) 0 rfl (Store.sub_refl _) ⟨by omega,by simp⟩ ?_
 rintro k ⟨hk,hn⟩
 simp only [↓vcPre,↓z0,↓reduceIte,vcPost,vcStd,Nat.reduceEqDiff,reduceCtorEq,Nat.reduceAdd,Nat.reduceLeDiff,Int.reduceLT,Int.reduceLE,↓u_setN]
 refine ⟨fun c1 => ?_,fun c1 => ?_⟩
 ·have c1':k<L.length:=by simpa using c1
  have ek:IntKind.i64.wrap ((k:Int)+1)=((k+1:Nat):Int):=by rw [zd (by unfold I64;omega)];omega
  have tk:L.take (k+1)=L.take k++[L[k]]:=by rw [List.take_add_one,List.getElem?_eq_getElem c1'];rfl
  refine ⟨by simpa using c1',by simp [cU],?_⟩
  have hg:oneV (List.take 1 (cU L[k]))=some (.int .u32 L[k]):=rfl
  simp only [hg,↓vcPre,↓z0,↓reduceIte,vcPost,vcStd,Nat.reduceEqDiff,reduceCtorEq,Nat.reduceAdd,Nat.reduceLeDiff,Int.reduceLT,Int.reduceLE,↓u_setN]
  refine ⟨fun h => ?_,fun h => ?_⟩
  ·have:n ∈ L:=h ▸ List.getElem_mem c1'
   exact by simpa using this
  ·simp only [ek,↓vcPre,↓z0,↓reduceIte,vcPost,vcStd,Nat.reduceEqDiff,reduceCtorEq,Nat.reduceAdd,Nat.reduceLeDiff,Int.reduceLT,Int.reduceLE,↓u_setN]
   refine NextQ.to (k+1) rfl (Store.sub_refl _) (by omega) ⟨by omega,?_⟩
   rw [tk]
   intro hm
   rcases List.mem_append.1 hm with h1 | h1
   ·exact hn h1
   ·exact h (by simpa using (List.mem_singleton.1 h1).symm)
 ·have e:L.take k=L:=List.take_of_length_le (by simp at c1;omega)
  rw [e] at hn
  simpa using hn
theorem c84 (a:At):Pur Tryz.prog 84 [.agg a.c] (.int .u32 (if a.hp then a.prf else 100)):=by
 refine zn Tst.F84 (by simp [Tst.F84,Fn.mkX]) fun σ => ?_
 simp only [Tst.F84,Fn.mkX,Tst.b84]
 have e9:a.c.length=9:=rfl
 have b5:List.take 1 (List.drop 5 a.c)=[.bool a.hp]:=rfl
 have b6:List.take 1 (List.drop 6 a.c)=[.int .u32 a.prf]:=rfl
 simp only [↓vcPre,↓z0,↓reduceIte,vcPost,vcStd,Nat.reduceEqDiff,reduceCtorEq,Nat.reduceAdd,Nat.reduceLeDiff,Int.reduceLT,Int.reduceLE,↓u_setN]
 refine AllocQ.i0 fun p hp => ?_
 have sT:=Store.sub_set σ p (.box a.c) hp
 simp only [e9,b5,↓vcPre,↓z0,↓reduceIte,vcPost,vcStd,Nat.reduceEqDiff,reduceCtorEq,Nat.reduceAdd,Nat.reduceLeDiff,Int.reduceLT,Int.reduceLE,↓u_setN]
 cases h:a.hp
 ·simp only [↓vcPre,↓z0,↓reduceIte,vcPost,vcStd,Nat.reduceEqDiff,reduceCtorEq,Nat.reduceAdd,Nat.reduceLeDiff,Int.reduceLT,Int.reduceLE,↓u_setN]
  exact sT
 ·simp only [e9,b6,↓vcPre,↓z0,↓reduceIte,vcPost,vcStd,Nat.reduceEqDiff,reduceCtorEq,Nat.reduceAdd,Nat.reduceLeDiff,Int.reduceLT,Int.reduceLE,↓u_setN]
  exact sT
def sameR (a b:PathR):Bool:=decide (a.peer=b.peer) && (decide (a.id=b.id) && (decide (a.addr=b.addr) && (decide (a.inr=b.inr) && decide (canonA a.a=canonA b.a))))
theorem z4j (a b:At):decide (cmpAs a b=0)=decide (a=b):=decide_eq_decide.2 z3u
theorem c16 (a b:PathR) (ha:a.a.ok) (hb:b.a.ok):Pur Tryz.prog 16 [.agg a.c,.agg b.c] (.bool (sameR a b)):=by
 refine zn Tst.F16 (by simp [Tst.F16,Fn.mkX]) fun σ => ?_
 simp only [Tst.F16,Fn.mkX,Tst.b16]
 have c13:∀ b:PathR,b.c.length=13:=fun _=>rfl
 have b0:∀ b:PathR,List.take 1 b.c=[.int .i64 b.peer]:=fun _=>rfl
 have b1:∀ b:PathR,List.take 1 (List.drop 1 b.c)=[.int .u32 b.id]:=fun _=>rfl
 have b2:∀ b:PathR,List.take 1 (List.drop 2 b.c)=[.int .u32 b.addr]:=fun _=>rfl
 have b3:∀ b:PathR,List.take 1 (List.drop 3 b.c)=[.bool b.inr]:=fun _=>rfl
 have b4:∀ b:PathR,List.take 9 (List.drop 4 b.c)=b.a.c:=fun _=>rfl
 simp only [↓vcPre,↓z0,↓reduceIte,vcPost,vcStd,Nat.reduceEqDiff,reduceCtorEq,Nat.reduceAdd,Nat.reduceLeDiff,Int.reduceLT,Int.reduceLE,↓u_setN]
 refine AllocQ.i0 fun p h1 => ?_
 simp only [↓vcPre,↓z0,↓reduceIte,vcPost,vcStd,Nat.reduceEqDiff,reduceCtorEq,Nat.reduceAdd,Nat.reduceLeDiff,Int.reduceLT,Int.reduceLE,↓u_setN]
 refine AllocQ.i1 fun q h2 h3 h4 => ?_
 have sT:=zp (o := .box a.c) (p := .box b.c) h1 h4 h2
 simp only [c13,b0,b1,b2,b3,b4,h2,h3,↓vcPre,↓z0,↓reduceIte,vcPost,vcStd,Nat.reduceEqDiff,reduceCtorEq,Nat.reduceAdd,Nat.reduceLeDiff,Int.reduceLT,Int.reduceLE,↓u_setN]
 have hc:=c44 a.a b.a ha hb
 rw [z4j] at hc
 refine ⟨fun c1=>⟨fun c2=>⟨fun c3 => ?_,fun c3 => ?_⟩,fun c2 => ?_⟩,fun c1 => ?_⟩
 ·by_cases c4:a.inr=b.inr
  ·rw [show (a.inr ==b.inr)=true by simpa using c4]
   simp only [↓vcPre,↓z0,↓reduceIte,vcPost,vcStd,Nat.reduceEqDiff,reduceCtorEq,Nat.reduceAdd,Nat.reduceLeDiff,Int.reduceLT,Int.reduceLE,↓u_setN]
   refine hc.Q ?_
   simp only [↓vcPre,↓z0,↓reduceIte,vcPost,vcStd,Nat.reduceEqDiff,reduceCtorEq,Nat.reduceAdd,Nat.reduceLeDiff,Int.reduceLT,Int.reduceLE,↓u_setN]
   exact ⟨by simp [sameR,c1,c2,c3,c4],sT⟩
  ·rw [show (a.inr ==b.inr)=false by simpa using c4]
   simp only [↓vcPre,↓z0,↓reduceIte,vcPost,vcStd,Nat.reduceEqDiff,reduceCtorEq,Nat.reduceAdd,Nat.reduceLeDiff,Int.reduceLT,Int.reduceLE,↓u_setN]
   exact ⟨by simp [sameR,c4],sT⟩
 ·exact ⟨by simp [sameR,c3],sT⟩
 ·exact ⟨by simp [sameR,c2],sT⟩
 ·exact ⟨by simp [sameR,c1],sT⟩
end Go.Am
namespace Go.Am
open Go.Proofs Go.Sort
theorem z8w (l:List Rule) (hl:l.length≤4611686018427387903):Pur Tryz.prog 144 [.sl 12 (l.map Rule.c)] (.bool (rulesOk l)):=fun _=>zgi l hl Rd.sl
theorem z5n {p:Peer→Bool} {l:List Peer} {k:Nat} (h:k<l.length):((l.take (k+1)).any p)=((l.take k).any p || p l[k]):=by
 have e:l.take (k+1)=l.take k++[l[k]]:=by rw [List.take_add_one,List.getElem?_eq_getElem h];rfl
 rw [e,List.any_append,List.any_cons,List.any_nil,Bool.or_false]
section
variable {c:Cfg} {σ:Store} {n rr:Env→Store→Prop} {xx:Nat→Env→Store→Prop} {p1 p4:Nat} {lv kv:AV}
theorem z59 {T:Store} (y:Peer) (hf:y.fit) (T4:T p4=some (.box y.c)) (E:List (Nat×AV))
 (hn:peerOk y=true→n [(1,.ptr p1 0),(3,kv),(126,.bool false)] T) (hr:peerOk y=false→rr [(2,.int .i64 24)] T):bwp Tryz.prog Ts31.t79_101 ((1,.ptr p1 0)::(3,kv)::(4,.ptr p4 0)::E) T n rr xx:=by
 simp only [Ts31.t79_101]
 have e4:y.c.length=4:=rfl
 have f0:List.take 1 y.c=[.int .u32 y.asn]:=rfl
 have f1:List.take 1 (List.drop 1 y.c)=[.int .u32 y.ad]:=rfl
 have f2:List.take 1 (List.drop 2 y.c)=[.sl 12 (y.inn.map Rule.c)]:=rfl
 have f3:List.take 1 (List.drop 3 y.c)=[.sl 12 (y.out.map Rule.c)]:=rfl
 simp only [T4,e4,f0,f1,↓vcPre,↓z0,↓reduceIte,vcPost,vcStd,Nat.reduceEqDiff,reduceCtorEq,Nat.reduceAdd,Nat.reduceLeDiff,Int.reduceLT,Int.reduceLE,↓u_setN]
 refine ⟨fun c1=>⟨fun c2 => ?_,fun c2 => ?_⟩,fun c1 => ?_⟩
 ·refine (z78 y.ad).Q ?_
  cases h1:decide (goodN y.ad)
  ·simp only [↓vcPre,↓z0,↓reduceIte,vcPost,vcStd,Nat.reduceEqDiff,reduceCtorEq,Nat.reduceAdd,Nat.reduceLeDiff,Int.reduceLT,Int.reduceLE,↓u_setN]
   exact hr (by simp [peerOk,h1])
  ·simp only [T4,e4,f2,↓vcPre,↓z0,↓reduceIte,vcPost,vcStd,Nat.reduceEqDiff,reduceCtorEq,Nat.reduceAdd,Nat.reduceLeDiff,Int.reduceLT,Int.reduceLE,↓u_setN]
   refine (z8w y.inn hf.1).Q ?_
   cases h2:rulesOk y.inn
   ·simp only [↓vcPre,↓z0,↓reduceIte,vcPost,vcStd,Nat.reduceEqDiff,reduceCtorEq,Nat.reduceAdd,Nat.reduceLeDiff,Int.reduceLT,Int.reduceLE,↓u_setN]
    exact hr (by simp [peerOk,h2])
   ·simp only [T4,e4,f3,↓vcPre,↓z0,↓reduceIte,vcPost,vcStd,Nat.reduceEqDiff,reduceCtorEq,Nat.reduceAdd,Nat.reduceLeDiff,Int.reduceLT,Int.reduceLE,↓u_setN]
    refine (z8w y.out hf.2).Q ?_
    have g1:decide (1≤y.asn)=true:=by simpa using c1
    have g2:decide (y.asn≤65535)=true:=by simpa using c2
    have hp:peerOk y=rulesOk y.out:=by unfold peerOk;rw [h1,h2,g1,g2];simp
    rw [hp] at hn hr
    cases h3:rulesOk y.out
    ·simp only [↓vcPre,↓z0,↓reduceIte,vcPost,vcStd,Nat.reduceEqDiff,reduceCtorEq,Nat.reduceAdd,Nat.reduceLeDiff,Int.reduceLT,Int.reduceLE,↓u_setN]
     exact hr h3
    ·simp only [↓vcPre,↓z0,↓reduceIte,vcPost,vcStd,Nat.reduceEqDiff,reduceCtorEq,Nat.reduceAdd,Nat.reduceLeDiff,Int.reduceLT,Int.reduceLE,↓u_setN]
     exact hn h3
 ·have g2:decide (y.asn≤65535)=false:=by simpa using c2
  exact hr (by unfold peerOk;rw [g2];simp)
 ·have g1:decide (1≤y.asn)=false:=by simpa using c1
  exact hr (by unfold peerOk;rw [g1];simp)
set_option maxHeartbeats 1000000 in
theorem z8c {T:Store} (hf:∀ p ∈ c.ps,p.fit) (hB:c.ps.length≤4) (hr:Rd 4 σ (c.ps.map Peer.c) lv) (T1:T p1=some (.box (c.cV lv))) (hs:Store.sub σ T) (E:List (Nat×AV))
 (h:∀ t',Store.sub σ t'→rr [(2,.int .i64 (if peersA c.ps then 0 else 24))] t'):bwp Tryz.prog Ts31.t79_3 ((1,.ptr p1 0)::E) T n rr xx:=by
 simp only [Ts31.t79_3]
 have hlen:=hr.2
 rw [List.length_map] at hlen
 have c7:∀ v,(c.cV v).length=7:=fun _=>rfl
 have f3:∀ v,List.take 1 (List.drop 3 (c.cV v))=[v]:=fun _=>rfl
 simp only [↓vcPre,↓z0,↓reduceIte,vcPost,vcStd,Nat.reduceEqDiff,reduceCtorEq,Nat.reduceAdd,Nat.reduceLeDiff,Int.reduceLT,Int.reduceLE,↓u_setN]
 refine LoopQ.inv (S:=Nat) (fun k=>[(1,.ptr p1 0),(3,.int .i64 (k:Int))]) (fun _=>T) (fun k=>k≤c.ps.length∧peersA (c.ps.take k)=true) (fun k=>c.ps.length+1 - k) 0 rfl (Store.sub_refl _) ⟨by omega,by simp [peersA,distA]⟩ ?_
 rintro k ⟨hk,hp⟩
 simp only [T1,c7,f3,hlen,↓vcPre,↓z0,↓reduceIte,vcPost,vcStd,Nat.reduceEqDiff,reduceCtorEq,Nat.reduceAdd,Nat.reduceLeDiff,Int.reduceLT,Int.reduceLE,↓u_setN]
 refine ⟨fun c1 => ?_,fun c1 => ?_⟩
 ·have ek:IntKind.i64.wrap ((k:Int)+1)=((k+1:Nat):Int):=by rw [zd (by unfold I64;omega)];omega
  have c1':k<c.ps.length:=by omega
  obtain ⟨p,hp1,hrd⟩:=hr.at (k:=k) (by simpa using c1')
  have hrd':=hrd T hs 4
  have eg:(c.ps.map Peer.c)[k]'(by simpa using c1')=c.ps[k].c:=List.getElem_map ..
  rw [eg] at hrd'
  have tk:takeN 0 4 c.ps[k].c=some c.ps[k].c:=rfl
  rw [tk] at hrd'
  have hfk:=hf _ (List.getElem_mem c1')
  have hstep:=z01 c1'
  have hfalse:=fun h=>qa (l:=c.ps) (k:=k+1) h
  generalize c.ps[k]=y at hrd' hfk hstep
  have e4:y.c.length=4:=rfl
  have t4:List.take 4 y.c=y.c:=rfl
  have z4:splice 0 y.c [AV.int .u32 0,.int .u32 0,.nils,.nils]=some y.c:=rfl
  have fy1:List.take 1 (List.drop 1 y.c)=[.int .u32 y.ad]:=rfl
  simp only [hp1,hrd',e4,t4,↓vcPre,↓z0,↓reduceIte,vcPost,vcStd,Nat.reduceEqDiff,reduceCtorEq,Nat.reduceAdd,Nat.reduceLeDiff,Int.reduceLT,Int.reduceLE,↓u_setN]
  refine AllocQ.i0 fun p4 h4 => ?_
  simp only [z4,e4,↓vcPre,↓z0,↓reduceIte,vcPost,vcStd,Nat.reduceEqDiff,reduceCtorEq,Nat.reduceAdd,Nat.reduceLeDiff,Int.reduceLT,Int.reduceLE,↓u_setN]
  have sU:Store.sub T ((T.set p4 (.box [AV.int .u32 0,.int .u32 0,.nils,.nils])).set p4 (.box y.c)):=za (Store.sub_set _ _ _ h4) h4
  have U4:=Store.set_same (T.set p4 (.box [AV.int .u32 0,.int .u32 0,.nils,.nils])) p4 (.box y.c)
  generalize (T.set p4 (.box [AV.int .u32 0,.int .u32 0,.nils,.nils])).set p4 (.box y.c)=U at sU U4 ⊢
  have U1:=sU _ _ T1
  have sU2:=Store.sub_trans hs sU
  refine LoopQ.inv (S:=Nat) (fun i=>[(1,.ptr p1 0),(3,.int .i64 (k:Int)),(4,.ptr p4 0),(5,.int .i64 (i:Int))]) (fun _=>U) (fun i=>i≤k∧((c.ps.take i).any fun q=>decide (q.ad=y.ad))=false) (fun i=>k+1 - i) 0 rfl (Store.sub_refl _) ⟨by omega,by simp⟩ ?_
  rintro i ⟨hi,ha⟩
  simp only [↓vcPre,↓z0,↓reduceIte,vcPost,vcStd,Nat.reduceEqDiff,reduceCtorEq,Nat.reduceAdd,Nat.reduceLeDiff,Int.reduceLT,Int.reduceLE,↓u_setN]
  refine ⟨fun c2 => ?_,fun c2 => ?_⟩
  ·have ei:IntKind.i64.wrap ((i:Int)+1)=((i+1:Nat):Int):=by rw [zd (by unfold I64;omega)];omega
   have c2':i<c.ps.length:=by omega
   obtain ⟨q,hq,_,hfl⟩:=hr.atf (k:=i) (by simpa using c2')
   have eq:(c.ps.map Peer.c)[i]'(by simpa using c2')=c.ps[i].c:=List.getElem_map ..
   rw [eq] at hfl
   have hat:=z5n (p:=fun q=>decide (q.ad=y.ad)) c2'
   have hmon:i+1≤k:=by omega
   have hsub:((c.ps.take (i+1)).any fun q=>decide (q.ad=y.ad))=true→((c.ps.take k).any fun q=>decide (q.ad=y.ad))=true:=fun h=>by
    rw [List.any_eq_true] at h ⊢
    obtain ⟨z,hz,hz2⟩:=h
    exact ⟨z,List.take_subset_take_left _ hmon hz,hz2⟩
   generalize c.ps[i]=z at hfl hat
   obtain ⟨q',hq',hrq⟩:=hfl 1 (by simp [Peer.c])
   have hrq':rd U 1 q'=some [.int .u32 z.ad]:=hrq U sU2 1
   simp only [U1,U4,c7,f3,hq,hq',hrq',e4,fy1,↓vcPre,↓z0,↓reduceIte,vcPost,vcStd,Nat.reduceEqDiff,reduceCtorEq,Nat.reduceAdd,Nat.reduceLeDiff,Int.reduceLT,Int.reduceLE,↓u_setN]
   refine ⟨fun c3 => ?_,fun c3 => ?_⟩
   ·have hx:=hfalse (by rw [hstep,hsub (by rw [hat];simp [c3])];simp)
    rw [hx] at h
    exact h _ sU2
   ·simp only [ei,↓vcPre,↓z0,↓reduceIte,vcPost,vcStd,Nat.reduceEqDiff,reduceCtorEq,Nat.reduceAdd,Nat.reduceLeDiff,Int.reduceLT,Int.reduceLE,↓u_setN]
    exact NextQ.to (i+1) rfl (Store.sub_refl _) (by omega) ⟨by omega,by rw [hat,ha];simpa using c3⟩
  ·have:i=k:=by omega
   subst this
   rw [ha] at hstep
   refine z59 y hfk U4 [(5,.int .i64 (i:Int)),(89,.bool (decide (i<i)))] ?_ ?_
   ·intro ho
    simp only [ek,↓vcPre,↓z0,↓reduceIte,vcPost,vcStd,Nat.reduceEqDiff,reduceCtorEq,Nat.reduceAdd,Nat.reduceLeDiff,Int.reduceLT,Int.reduceLE,↓u_setN]
    exact NextQ.to (i+1) rfl sU (by omega) ⟨by omega,by rw [hstep,hp,ho];rfl⟩
   ·intro ho
    have hx:=hfalse (by rw [hstep,ho];simp)
    rw [hx] at h
    exact h _ sU2
 ·have e:c.ps.take k=c.ps:=List.take_of_length_le (by omega)
  rw [e] at hp
  rw [hp] at h
  exact h _ hs
end
set_option maxHeartbeats 1000000 in
set_option maxRecDepth 20000 in
theorem s79 {σ:Store} (c:Cfg) (hf:∀ p ∈ c.ps,p.fit) {lv:AV} (hr:Rd 4 σ (c.ps.map Peer.c) lv):ACalls Tryz.prog 79 [.agg (c.cV lv)] σ (fun r s=>s=σ∧r = .int .i64 (chkA c)):=by
 refine zk Ts31.F79 (by simp [Ts31.F79,Fn.mkX]) ?_
 simp only [Ts31.F79,Fn.mkX,Ts31.b79]
 have hlen:=hr.2
 rw [List.length_map] at hlen
 have c7:∀ v,(c.cV v).length=7:=fun _=>rfl
 have f0:∀ v,List.take 1 (c.cV v)=[.int .u32 c.asn]:=fun _=>rfl
 have f1:∀ v,List.take 1 (List.drop 1 (c.cV v))=[.int .u32 c.id]:=fun _=>rfl
 have f2:∀ v,List.take 1 (List.drop 2 (c.cV v))=[.int .i64 c.hold]:=fun _=>rfl
 have f3:∀ v,List.take 1 (List.drop 3 (c.cV v))=[v]:=fun _=>rfl
 have f4:∀ v,List.take 1 (List.drop 4 (c.cV v))=[.int .i64 c.wd]:=fun _=>rfl
 have f5:∀ v,List.take 1 (List.drop 5 (c.cV v))=[.int .i64 c.dp]:=fun _=>rfl
 have f6:∀ v,List.take 1 (List.drop 6 (c.cV v))=[.int .i64 c.rm]:=fun _=>rfl
 simp only [↓vcPre,↓z0,↓reduceIte,vcPost,vcStd,Nat.reduceEqDiff,reduceCtorEq,Nat.reduceAdd,Nat.reduceLeDiff,Int.reduceLT,Int.reduceLE,↓u_setN]
 refine AllocQ.i0 fun p1 h1 => ?_
 have sT:=Store.sub_set σ p1 (.box (c.cV lv)) h1
 have T1:=Store.set_same σ p1 (.box (c.cV lv))
 generalize σ.set p1 (.box (c.cV lv))=T at sT T1 ⊢
 have e1:¬ cfgA c → @EndQ [(2,.int .i64 1)] T ⟨Ts31.F79.slots,fun r s=>s=σ∧r = .int .i64 (chkA c)⟩:=fun h=>EndQ.to σ _ rfl sT ⟨rfl,by unfold chkA;rw [if_pos h]⟩
 have e4:cfgA c→¬ cfgB c → @EndQ [(2,.int .i64 4)] T ⟨Ts31.F79.slots,fun r s=>s=σ∧r = .int .i64 (chkA c)⟩:=fun h h'=>EndQ.to σ _ rfl sT ⟨rfl,by unfold chkA;rw [if_neg (fun x=>x h),if_pos h']⟩
 have e0:cfgA c→cfgB c→∀ t',Store.sub σ t' → @EndQ [(2,.int .i64 (if peersA c.ps then 0 else 24))] t' ⟨Ts31.F79.slots,fun r s=>s=σ∧r = .int .i64 (chkA c)⟩:=fun h h' t' hs=>EndQ.to σ _ rfl hs ⟨rfl,by unfold chkA;rw [if_neg (show ¬ ¬ cfgA c from fun x=>x h),if_neg (show ¬ ¬ cfgB c from fun x=>x h')]⟩
 simp only [T1,c7,f0,f1,↓vcPre,↓z0,↓reduceIte,vcPost,vcStd,Nat.reduceEqDiff,reduceCtorEq,Nat.reduceAdd,Nat.reduceLeDiff,Int.reduceLT,Int.reduceLE,↓u_setN]
 refine ⟨fun c1=>⟨fun c2 => ?_,fun c2 => ?_⟩,fun c1 => ?_⟩
 ·refine (z78 c.id).Q ?_
  cases hg:decide (goodN c.id)
  ·have hg':¬ goodN c.id:=by simpa using hg
   simp only [↓vcPre,↓z0,↓reduceIte,vcPost,vcStd,Nat.reduceEqDiff,reduceCtorEq,Nat.reduceAdd,Nat.reduceLeDiff,Int.reduceLT,Int.reduceLE,↓u_setN]
   exact e1 (fun h=>hg' h.2.1)
  ·have hg':goodN c.id:=by simpa using hg
   simp only [T1,c7,f2,f3,f4,f5,f6,hlen,↓vcPre,↓z0,↓reduceIte,vcPost,vcStd,Nat.reduceEqDiff,reduceCtorEq,Nat.reduceAdd,Nat.reduceLeDiff,Int.reduceLT,Int.reduceLE,↓u_setN]
   repeat' (with_reducible refine And.intro (fun _ => ?_) (fun _ => ?_))
   all_goals first
    | exact e1 (fun h=>by unfold cfgA at h;omega)
    | exact e4 ⟨⟨by omega,by omega⟩,hg',by omega,by omega,⟨by omega,by omega⟩,⟨by omega,by omega⟩,⟨by omega,by omega⟩⟩ (fun h=>by unfold cfgB at h;omega)
    | (exfalso;omega)
    | exact z8c hf (by omega) hr T1 sT _ (e0 ⟨⟨by omega,by omega⟩,hg',by omega,by omega,⟨by omega,by omega⟩,⟨by omega,by omega⟩,⟨by omega,by omega⟩⟩ ⟨by omega,by omega⟩)
 ·exact e1 (fun h=>by unfold cfgA at h;omega)
 ·exact e1 (fun h=>by unfold cfgA at h;omega)
end Go.Am
namespace Go.Am
open Go.Proofs Go.Sort
theorem z6a {a:At} (h:atRight a):encOk a:=by
 refine ⟨by have:=h.2.1.2;omega,fun s hs => ?_,by have:=h.2.2.2.2.2.1;omega⟩
 have:=h.2.1.1 s hs
 have:=this.2.2
 omega
section
variable {c:Cfg} {σ:Store} {n rr:Env→Store→Prop} {xx:Nat→Env→Store→Prop} {p4 p6 p8 p11:Nat} {lv:AV} {k:Nat} {q:Int×Int}
theorem z1z {T:Store} (a:At) (ha:a.ok) (T8:T p8=some (.box zCells)) (T11:T p11=some (.box a.c)) (n8:¬ p8=p11) (hs:Store.sub σ T) (h8:σ p8=none) (E:List (Nat×AV))
 (hT:∀ t',Store.sub σ t'→t' p8=some (.box a.c)→fitT a true→rr [(8,.ptr p8 0),(9,.bool true)] t')
 (hF:∀ t',Store.sub σ t'→t' p8=some (.box zCells)→¬ fitT a true→rr [(8,.ptr p8 0),(9,.bool false)] t') :
 bwp Tryz.prog Ts31.t42_118 ((8,.ptr p8 0)::(11,.ptr p11 0)::E) T n rr xx:=by
 simp only [Ts31.t42_118,yk]
 have e9:∀ y:At,y.c.length=9:=fun _=>rfl
 have t9:∀ y:At,List.take 9 y.c=y.c:=fun _=>rfl
 have hz:∀ y:At,splice 0 y.c zCells=some y.c:=fun _=>rfl
 have hzz:splice 0 zCells zCells=some zCells:=rfl
 have z9:zCells.length=9:=rfl
 simp only [T11,e9,t9,↓vcPre,↓z0,↓reduceIte,vcPost,vcStd,Nat.reduceEqDiff,reduceCtorEq,Nat.reduceAdd,Nat.reduceLeDiff,Int.reduceLT,Int.reduceLE,↓u_setN]
 refine (c81 a ha).Q ?_
 by_cases hr:atRight a
 ·rw [decide_eq_true hr]
  simp only [T11,e9,t9,↓vcPre,↓z0,↓reduceIte,vcPost,vcStd,Nat.reduceEqDiff,reduceCtorEq,Nat.reduceAdd,Nat.reduceLeDiff,Int.reduceLT,Int.reduceLE,↓u_setN]
  refine (s87 a (z6a hr) T).Q ?_
  rintro r U ⟨sU,ho⟩
  have hl:=(Rd.own ho).2
  rw [List.length_map] at hl
  have U11:=sU _ _ T11
  have U8:=sU _ _ T8
  have hsU:=Store.sub_trans hs sU
  simp only [hl,U8,hzz,z9,U11,e9,t9,hz,↓vcPre,↓z0,↓reduceIte,vcPost,vcStd,Nat.reduceEqDiff,reduceCtorEq,Nat.reduceAdd,Nat.reduceLeDiff,Int.reduceLT,Int.reduceLE,↓u_setN]
  exact ⟨fun h=>hF _ (za hsU h8) (Store.set_same _ _ _) (fun h2=>by have:=h2.2.2;omega),fun h=>hT _ (za hsU h8) (Store.set_same _ _ _) ⟨rfl,hr,by omega⟩⟩
 ·rw [show decide (atRight a)=false by simpa using hr]
  simp only [T8,hzz,z9,↓vcPre,↓z0,↓reduceIte,vcPost,vcStd,Nat.reduceEqDiff,reduceCtorEq,Nat.reduceAdd,Nat.reduceLeDiff,Int.reduceLT,Int.reduceLE,↓u_setN]
  exact hF _ (za hs h8) (Store.set_same _ _ _) (fun h=>hr h.2.1)
set_option maxHeartbeats 1000000 in
theorem z35 {T:Store} (hk:k<c.ps.length) (hf:c.ps[k].fit) (a:At) (ha:a.ok) (ha2:a.path.length≤900000) (ha3:a.cms.length≤900000) (hr:Rd 4 σ (c.ps.map Peer.c) lv) (T4:T p4=some (.box (c.cV lv))) (T6:T p6=some (.box [.int .u32 q.1,.int .i64 q.2])) (T8:T p8=some (.box zCells)) (T11:T p11=some (.box a.c))
 (h811:¬ p8=p11) (hs:Store.sub σ T) (h8:σ p8=none) (h11:σ p11=none)
 (hT:∀ t',Store.sub σ t'→t' p8=some (.box (tailT c c.ps[k] q a).1.c)→(tailT c c.ps[k] q a).2=true→rr [(8,.ptr p8 0),(9,.bool true)] t')
 (hF:∀ t',Store.sub σ t'→t' p8=some (.box zCells)→tailT c c.ps[k] q a=(zeroAt,false)→rr [(8,.ptr p8 0),(9,.bool false)] t') :
 bwp Tryz.prog Ts31.t42_98 [(1,.int .i64 (k:Int)),(4,.ptr p4 0),(6,.ptr p6 0),(8,.ptr p8 0),(10,.bool (innerA c c.ps[k])),(11,.ptr p11 0)] T n rr xx:=by
 simp only [Ts31.t42_98,yk]
 have e9:∀ y:At,y.c.length=9:=fun _=>rfl
 have t9:∀ y:At,List.take 9 y.c=y.c:=fun _=>rfl
 have sA:∀ y w:At,splice 0 y.c w.c=some y.c:=fun _ _=>rfl
 have hz:∀ y:At,splice 0 y.c zCells=some y.c:=fun _=>rfl
 have hzz:splice 0 zCells zCells=some zCells:=rfl
 have z9:zCells.length=9:=rfl
 have c7:∀ v,(c.cV v).length=7:=fun _=>rfl
 have f0:∀ v,List.take 1 (c.cV v)=[.int .u32 c.asn]:=fun _=>rfl
 have f3:∀ v,List.take 1 (List.drop 3 (c.cV v))=[v]:=fun _=>rfl
 obtain ⟨p,hp,_,hfl⟩:=hr.atf (k:=k) (by simpa using hk)
 have eg:(c.ps.map Peer.c)[k]'(by simpa using hk)=c.ps[k].c:=List.getElem_map ..
 rw [eg] at hfl
 generalize c.ps[k]=y at hfl hf hT hF ⊢
 obtain ⟨p',hp',hrd⟩:=hfl 3 (by simp [Peer.c])
 have hrd':rd T 1 p'=some [.sl 12 (y.out.map Rule.c)]:=hrd T hs 1
 simp only [T4,T6,T11,c7,f0,f3,hp,hp',hrd',e9,t9,↓vcPre,↓z0,↓reduceIte,vcPost,vcStd,Nat.reduceEqDiff,reduceCtorEq,Nat.reduceAdd,Nat.reduceLeDiff,Int.reduceLT,Int.reduceLE,↓u_setN]
 refine (s86 y.out q c.asn a ha ha2 ha3 hf.2 Rd.sl).Q ?_
 rintro v T ⟨rfl,rfl⟩
 rw [z4e]
 have hok:=ut (rs:=y.out) (x:=c.asn) (q:=q) ha ha2 ha3
 unfold tailT at hT hF
 generalize applyA y.out c.asn q a=R at hok hT hF ⊢
 have s5:∀ b:At,splice 5 [.bool false] b.c=some ({ b with hp:=false }:At).c:=fun _=>rfl
 have s6:∀ b:At,splice 6 [.int .u32 0] b.c=some ({ b with prf:=0 }:At).c:=fun _=>rfl
 have hokL:(lastT c y R.1).ok:=by unfold lastT;split <;> exact hok
 have hT':∀ t',Store.sub σ t'→t' p8=some (.box (lastT c y R.1).c)→fitT (lastT c y R.1) R.2→rr [(8,.ptr p8 0),(9,.bool true)] t':=fun t' h1 h2 h3=>hT t' h1 (by rw [if_pos h3];exact h2) (by rw [if_pos h3])
 have hF':∀ t',Store.sub σ t'→t' p8=some (.box zCells)→¬ fitT (lastT c y R.1) R.2→rr [(8,.ptr p8 0),(9,.bool false)] t':=fun t' h1 h2 h3=>hF t' h1 h2 (by rw [if_neg h3])
 clear hT hF
 simp only [T11,sA,e9,↓vcPre,↓z0,↓reduceIte,vcPost,vcStd,Nat.reduceEqDiff,reduceCtorEq,Nat.reduceAdd,Nat.reduceLeDiff,Int.reduceLT,Int.reduceLE,↓u_setN]
 cases hb:R.2
 ·rw [hb] at hT' hF'
  simp only [T8,hzz,z9,h811,↓vcPre,↓z0,↓reduceIte,vcPost,vcStd,Nat.reduceEqDiff,reduceCtorEq,Nat.reduceAdd,Nat.reduceLeDiff,Int.reduceLT,Int.reduceLE,↓u_setN]
  exact hF' _ (za (za hs h11) h8) (Store.set_same _ _ _) (fun h=>by cases h.1)
 ·rw [hb] at hT' hF'
  simp only [↓vcPre,↓z0,↓reduceIte,vcPost,vcStd,Nat.reduceEqDiff,reduceCtorEq,Nat.reduceAdd,Nat.reduceLeDiff,Int.reduceLT,Int.reduceLE,↓u_setN]
  cases hi:innerA c y
  ·have hL:lastT c y R.1={ R.1 with hp:=false,prf:=0 }:=by unfold lastT;rw [hi];rfl
   rw [hL] at hokL hT' hF'
   simp only [s5,s6,e9,↓vcPre,↓z0,↓reduceIte,vcPost,vcStd,Nat.reduceEqDiff,reduceCtorEq,Nat.reduceAdd,Nat.reduceLeDiff,Int.reduceLT,Int.reduceLE,↓u_setN]
   exact z1z (σ:=σ) _ hokL ((Store.set_ne _ _ h811).trans ((Store.set_ne _ _ h811).trans ((Store.set_ne _ _ h811).trans T8))) (Store.set_same _ _ _) h811 (za (za (za hs h11) h11) h11) h8 _ hT' hF'
  ·have hL:lastT c y R.1=R.1:=by unfold lastT;rw [hi];rfl
   rw [hL] at hokL hT' hF'
   simp only [↓vcPre,↓z0,↓reduceIte,vcPost,vcStd,Nat.reduceEqDiff,reduceCtorEq,Nat.reduceAdd,Nat.reduceLeDiff,Int.reduceLT,Int.reduceLE,↓u_setN]
   exact z1z (σ:=σ) _ hokL ((Store.set_ne _ _ h811).trans T8) (Store.set_same _ _ _) h811 (za hs h11) h8 _ hT' hF'
set_option maxHeartbeats 1000000 in
theorem z8a {T:Store} {p7:Nat} (b:PathR) (hb:b.a.ok) (har:atRight b.a) (hm:k<c.ps.length) (hfk:c.ps[k].fit) (hr:Rd 4 σ (c.ps.map Peer.c) lv) (T4:T p4=some (.box (c.cV lv))) (T6:T p6=some (.box [.int .u32 q.1,.int .i64 q.2])) (T7:T p7=some (.box b.c)) (T8:T p8=some (.box zCells))
 (sT:Store.sub σ T) (h8:σ p8=none) (E:List (Nat×AV))
 (hT:∀ t',Store.sub σ t'→t' p8=some (.box (tailT c c.ps[k] q (startT c c.ps[k] b.a)).1.c)→(tailT c c.ps[k] q (startT c c.ps[k] b.a)).2=true→rr [(8,.ptr p8 0),(9,.bool true)] t')
 (hF:∀ t',Store.sub σ t'→t' p8=some (.box zCells)→tailT c c.ps[k] q (startT c c.ps[k] b.a)=(zeroAt,false)→rr [(8,.ptr p8 0),(9,.bool false)] t') :
 bwp Tryz.prog Ts31.t42_76 ((1,.int .i64 (k:Int))::(4,.ptr p4 0)::(6,.ptr p6 0)::(7,.ptr p7 0)::(8,.ptr p8 0)::(10,.bool (innerA c c.ps[k]))::E) T n rr xx:=by
 simp only [Ts31.t42_76,yk]
 have e9:∀ y:At,y.c.length=9:=fun _=>rfl
 have t9:∀ y:At,List.take 9 y.c=y.c:=fun _=>rfl
 have hz:∀ y:At,splice 0 y.c zCells=some y.c:=fun _=>rfl
 have c7:∀ v,(c.cV v).length=7:=fun _=>rfl
 have f0:∀ v,List.take 1 (c.cV v)=[.int .u32 c.asn]:=fun _=>rfl
 have f1:∀ v,List.take 1 (List.drop 1 (c.cV v))=[.int .u32 c.id]:=fun _=>rfl
 have b13:b.c.length=13:=rfl
 have tb4:List.take 9 (List.drop 4 b.c)=b.a.c:=rfl
 simp only [T7,b13,tb4,↓vcPre,↓z0,↓reduceIte,vcPost,vcStd,Nat.reduceEqDiff,reduceCtorEq,Nat.reduceAdd,Nat.reduceLeDiff,Int.reduceLT,Int.reduceLE,↓u_setN]
 refine (c83 b.a hb).Q ?_
 simp only [↓vcPre,↓z0,↓reduceIte,vcPost,vcStd,Nat.reduceEqDiff,reduceCtorEq,Nat.reduceAdd,Nat.reduceLeDiff,Int.reduceLT,Int.reduceLE,↓u_setN]
 refine AllocQ.i0 fun p11 h11 => ?_
 have h811:¬ p8=p11:=fun e=>by subst e;rw [T8] at h11;cases h11
 simp only [hz,e9,↓vcPre,↓z0,↓reduceIte,vcPost,vcStd,Nat.reduceEqDiff,reduceCtorEq,Nat.reduceAdd,Nat.reduceLeDiff,Int.reduceLT,Int.reduceLE,↓u_setN]
 have σ11:=zm sT h11
 have sU:Store.sub T ((T.set p11 (.box zCells)).set p11 (.box (canonA b.a).c)):=za (Store.sub_set _ _ _ h11) h11
 have U11:=Store.set_same (T.set p11 (.box zCells)) p11 (.box (canonA b.a).c)
 generalize (T.set p11 (.box zCells)).set p11 (.box (canonA b.a).c)=U at sU U11 ⊢
 have U4:=sU _ _ T4
 have U6:=sU _ _ T6
 have U8:=sU _ _ T8
 have sU2:=Store.sub_trans sT sU
 have hcan:(canonA b.a).ok:=y6 hb
 have hcp:(canonA b.a).path.length≤16:=har.2.1.2
 have hcc:(canonA b.a).cms.length≤32:=by have:=x4 b.a.cms;have:=har.2.2.2.2.2.1;simp only [canonA];omega
 have hSA:startT c c.ps[k] b.a=if innerA c c.ps[k] then { canonA b.a with hp:=true,prf:=if (canonA b.a).hp then (canonA b.a).prf else 100 } else { canonA b.a with path:=preA c.asn 1 (canonA b.a).path,nxt:=c.id,hm:=false,med:=0,hp:=false,prf:=0 }:=rfl
 generalize canonA b.a=a0 at U11 hcan hcp hcc hSA
 have b1:∀ b:At,List.take 1 (List.drop 1 b.c)=[.sl 2 (b.path.map Seg.c)]:=fun _=>rfl
 have s1:∀ (b:At) P,splice 1 [.sl 2 (P.map Seg.c)] b.c=some ({ b with path:=P }:At).c:=fun _ _=>rfl
 have s2:∀ (b:At) x,splice 2 [.int .u32 x] b.c=some ({ b with nxt:=x }:At).c:=fun _ _=>rfl
 have s3:∀ (b:At) x,splice 3 [.bool x] b.c=some ({ b with hm:=x }:At).c:=fun _ _=>rfl
 have s4:∀ (b:At) x,splice 4 [.int .u32 x] b.c=some ({ b with med:=x }:At).c:=fun _ _=>rfl
 have s5:∀ (b:At) x,splice 5 [.bool x] b.c=some ({ b with hp:=x }:At).c:=fun _ _=>rfl
 have s6:∀ (b:At) x,splice 6 [.int .u32 x] b.c=some ({ b with prf:=x }:At).c:=fun _ _=>rfl
 have n411:¬ p4=p11:=fun e=>by subst e;rw [T4] at h11;cases h11
 have n611:¬ p6=p11:=fun e=>by subst e;rw [T6] at h11;cases h11
 cases hi:innerA c c.ps[k]
 ·rw [hi] at hSA
  simp only [Bool.false_eq_true,if_false] at hSA
  rw [hSA] at hT hF
  simp only [U11,U4,e9,t9,b1,c7,f0,↓vcPre,↓z0,↓reduceIte,vcPost,vcStd,Nat.reduceEqDiff,reduceCtorEq,Nat.reduceAdd,Nat.reduceLeDiff,Int.reduceLT,Int.reduceLE,↓u_setN]
  have h16:=xn c.asn 1 a0.path
  have hpo:=ww c.asn 1 a0.path hcan.2.1
  have hpp:=c85 a0.path hcan.1 hcan.2.1 c.asn 1
  rw [show preN 1=1 from rfl] at hpp
  refine hpp.Q ?_
  simp only [U11,U4,e9,s1,s2,s3,s4,s5,s6,n411,c7,f1,↓vcPre,↓z0,↓reduceIte,vcPost,vcStd,Nat.reduceEqDiff,reduceCtorEq,Nat.reduceAdd,Nat.reduceLeDiff,Int.reduceLT,Int.reduceLE,↓u_setN]
  simp only [Store.set_set]
  rw [show (AV.bool false)=AV.bool (innerA c c.ps[k]) by rw [hi]]
  exact z35 (σ:=σ) hm hfk { a0 with path:=preA c.asn 1 a0.path,nxt:=c.id,hm:=false,med:=0,hp:=false,prf:=0 } ⟨by simp only;omega,hpo,hcan.2.2⟩ (by simp only;omega) (by simp only;omega) hr ((Store.set_ne _ _ n411).trans U4) ((Store.set_ne _ _ n611).trans U6) ((Store.set_ne _ _ h811).trans U8) (Store.set_same _ _ _) h811 (za sU2 σ11) h8 σ11 hT hF
 ·rw [hi,if_pos rfl] at hSA
  rw [hSA] at hT hF
  simp only [U11,e9,t9,↓vcPre,↓z0,↓reduceIte,vcPost,vcStd,Nat.reduceEqDiff,reduceCtorEq,Nat.reduceAdd,Nat.reduceLeDiff,Int.reduceLT,Int.reduceLE,↓u_setN]
  refine (c84 a0).Q ?_
  simp only [U11,e9,s5,s6,↓vcPre,↓z0,↓reduceIte,vcPost,vcStd,Nat.reduceEqDiff,reduceCtorEq,Nat.reduceAdd,Nat.reduceLeDiff,Int.reduceLT,Int.reduceLE,↓u_setN]
  simp only [Store.set_set]
  rw [show (AV.bool true)=AV.bool (innerA c c.ps[k]) by rw [hi]]
  exact z35 (σ:=σ) hm hfk { a0 with hp:=true,prf:=if a0.hp then a0.prf else 100 } hcan (by simp only;omega) (by simp only;omega) hr ((Store.set_ne _ _ n411).trans U4) ((Store.set_ne _ _ n611).trans U6) ((Store.set_ne _ _ h811).trans U8) (Store.set_same _ _ _) h811 (za sU2 σ11) h8 σ11 hT hF
end
end Go.Am
namespace Go.Am
open Go.Proofs Go.Sort
set_option maxHeartbeats 2000000 in
set_option maxRecDepth 20000 in
theorem s42 {σ:Store} (c:Cfg) (hf:∀ p ∈ c.ps,p.fit) (k:Int) (q:Int×Int) (b:PathR) (hb:b.a.ok) {lv:AV} (hr:Rd 4 σ (c.ps.map Peer.c) lv) :
 ACalls Tryz.prog 42 [.agg (c.cV lv),.int .i64 k,.agg [.int .u32 q.1,.int .i64 q.2],.agg b.c] σ (fun r s=>s=σ∧r = .tup [.agg (toldA c k q b).1.c,.bool (toldA c k q b).2]):=by
 refine zk Ts31.F42 (by simp [Ts31.F42,Fn.mkX]) ?_
 simp only [Ts31.F42,Fn.mkX,Ts31.b42,yk]
 have e9:∀ y:At,y.c.length=9:=fun _=>rfl
 have t9:∀ y:At,List.take 9 y.c=y.c:=fun _=>rfl
 have sA:∀ y w:At,splice 0 y.c w.c=some y.c:=fun _ _=>rfl
 have hz:∀ y:At,splice 0 y.c zCells=some y.c:=fun _=>rfl
 have hzz:splice 0 zCells zCells=some zCells:=rfl
 have z9:zCells.length=9:=rfl
 have y9:List.take 9 zCells=zCells:=rfl
 have c7:∀ v,(c.cV v).length=7:=fun _=>rfl
 have t7:∀ v,List.take 7 (c.cV v)=c.cV v:=fun _=>rfl
 have f0:∀ v,List.take 1 (c.cV v)=[.int .u32 c.asn]:=fun _=>rfl
 have f1:∀ v,List.take 1 (List.drop 1 (c.cV v))=[.int .u32 c.id]:=fun _=>rfl
 have f3:∀ v,List.take 1 (List.drop 3 (c.cV v))=[v]:=fun _=>rfl
 have b13:b.c.length=13:=rfl
 have b0:List.take 1 b.c=[.int .i64 b.peer]:=rfl
 have b3:List.take 1 (List.drop 3 b.c)=[.bool b.inr]:=rfl
 have b12:List.take 1 (List.drop 12 b.c)=[.sl 1 (b.a.cms.map cU)]:=rfl
 have tb4:List.take 9 (List.drop 4 b.c)=b.a.c:=rfl
 have hlen:=hr.2
 rw [List.length_map] at hlen
 simp only [↓vcPre,↓z0,↓reduceIte,vcPost,vcStd,Nat.reduceEqDiff,reduceCtorEq,Nat.reduceAdd,Nat.reduceLeDiff,Int.reduceLT,Int.reduceLE,↓u_setN]
 refine AllocQ.i0 fun p4 h4 => ?_
 simp only [↓vcPre,↓z0,↓reduceIte,vcPost,vcStd,Nat.reduceEqDiff,reduceCtorEq,Nat.reduceAdd,Nat.reduceLeDiff,Int.reduceLT,Int.reduceLE,↓u_setN]
 refine AllocQ.i1 fun p6 h64 h46 h6 => ?_
 simp only [↓vcPre,↓z0,↓reduceIte,vcPost,vcStd,Nat.reduceEqDiff,reduceCtorEq,Nat.reduceAdd,Nat.reduceLeDiff,Int.reduceLT,Int.reduceLE,↓u_setN]
 refine AllocQ.i2 fun p7 h74 h47 h76 h67 h7 => ?_
 simp only [↓vcPre,↓z0,↓reduceIte,vcPost,vcStd,Nat.reduceEqDiff,reduceCtorEq,Nat.reduceAdd,Nat.reduceLeDiff,Int.reduceLT,Int.reduceLE,↓u_setN]
 refine AllocQ.i0 fun p8 h8' => ?_
 have s3:Store.sub σ (((σ.set p4 (.box (c.cV lv))).set p6 (.box [.int .u32 q.1,.int .i64 q.2])).set p7 (.box b.c)):=za (zp h4 h6 h64) h7
 have sT:=Store.sub_trans s3 (Store.sub_set _ p8 (.box zCells) h8')
 have h8:σ p8=none:=zm s3 h8'
 have A7:=Store.set_same ((σ.set p4 (.box (c.cV lv))).set p6 (.box [.int .u32 q.1,.int .i64 q.2])) p7 (.box b.c)
 have A6:(((σ.set p4 (.box (c.cV lv))).set p6 (.box [.int .u32 q.1,.int .i64 q.2])).set p7 (.box b.c)) p6=some (.box [.int .u32 q.1,.int .i64 q.2]):=by rw [Store.set_ne _ _ h67];exact Store.set_same _ _ _
 have A4:(((σ.set p4 (.box (c.cV lv))).set p6 (.box [.int .u32 q.1,.int .i64 q.2])).set p7 (.box b.c)) p4=some (.box (c.cV lv)):=by rw [Store.set_ne _ _ h47,Store.set_ne _ _ h46];exact Store.set_same _ _ _
 have T7:=Store.sub_set _ p8 (.box zCells) h8' _ _ A7
 have T6:=Store.sub_set _ p8 (.box zCells) h8' _ _ A6
 have T4:=Store.sub_set _ p8 (.box zCells) h8' _ _ A4
 have T8:=Store.set_same (((σ.set p4 (.box (c.cV lv))).set p6 (.box [.int .u32 q.1,.int .i64 q.2])).set p7 (.box b.c)) p8 (.box zCells)
 generalize (((σ.set p4 (.box (c.cV lv))).set p6 (.box [.int .u32 q.1,.int .i64 q.2])).set p7 (.box b.c)).set p8 (.box zCells)=T at sT T4 T6 T7 T8 ⊢
 have no:toldA c k q b=(zeroAt,false) → @EndQ [(8,.ptr p8 0),(9,.bool false)] (T.set p8 (.box zCells)) ⟨Ts31.F42.slots,fun r s=>s=σ∧r = .tup [.agg (toldA c k q b).1.c,.bool (toldA c k q b).2]⟩:=fun h=>by
  rw [h]
  refine EndQ.two (.agg zCells) (.bool false) σ ?_ ?_
  ·show Env.res [(8,AV.ptr p8 0),(9,.bool false)] _ [RS.c 8 9 true,RS.t 9]=_
   simp only [Store.set_same,z9,y9,Nat.le_refl,↓vcPre,↓z0,↓reduceIte,vcPost,vcStd,Nat.reduceEqDiff,reduceCtorEq,Nat.reduceAdd,Nat.reduceLeDiff,Int.reduceLT,Int.reduceLE,↓u_setN]
  ·exact WeakL.pos 0 rfl (vg (WeakL.forget (za sT h8) (WeakL.pure ⟨rfl,rfl⟩)))
 simp only [T4,c7,t7,↓vcPre,↓z0,↓reduceIte,vcPost,vcStd,Nat.reduceEqDiff,reduceCtorEq,Nat.reduceAdd,Nat.reduceLeDiff,Int.reduceLT,Int.reduceLE,↓u_setN]
 refine (s79 c hf (hr.mono sT)).Q ?_
 rintro v T ⟨rfl,rfl⟩
 have hc:¬ chkA c=0→toldA c k q b=(zeroAt,false):=fun h=>by unfold toldA;rw [if_neg (fun x=>h x.1)]
 have hk0:k<0→toldA c k q b=(zeroAt,false):=fun h=>by unfold toldA;rw [if_neg (fun x=>by omega)]
 simp only [T8,hzz,z9,T4,c7,f3,hlen,↓vcPre,↓z0,↓reduceIte,vcPost,vcStd,Nat.reduceEqDiff,reduceCtorEq,Nat.reduceAdd,Nat.reduceLeDiff,Int.reduceLT,Int.reduceLE,↓u_setN]
 refine ⟨fun g1=>⟨fun g2=>⟨fun g3 => ?_,fun g3 => ?_⟩,fun g2=>no (hk0 g2)⟩,fun g1=>no (hc g1)⟩
 ·obtain ⟨m,rfl⟩:∃ m:Nat,k=(m:Int):=⟨k.toNat,by omega⟩
  have hm:m<c.ps.length:=by omega
  have hget:c.ps[(m:Int).toNat]? = some c.ps[m]:=by rw [Int.toNat_natCast];exact List.getElem?_eq_getElem hm
  have hA:toldA c m q b=if rightF q.1 q.2=true∧atRight b.a∧hiddenA c m c.ps[m] b=false then tailT c c.ps[m] q (startT c c.ps[m] b.a) else (zeroAt,false):=by
   unfold toldA;rw [if_pos ⟨g1,by omega⟩,hget]
  simp only [T6,↓vcPre,↓z0,↓reduceIte,vcPost,vcStd,Nat.reduceEqDiff,reduceCtorEq,Nat.reduceAdd,Nat.reduceLeDiff,Int.reduceLT,Int.reduceLE,↓u_setN]
  refine (c80 q.1 q.2).Q ?_
  cases hq:rightF q.1 q.2
  ·simp only [T8,hzz,z9,↓vcPre,↓z0,↓reduceIte,vcPost,vcStd,Nat.reduceEqDiff,reduceCtorEq,Nat.reduceAdd,Nat.reduceLeDiff,Int.reduceLT,Int.reduceLE,↓u_setN]
   exact no (by rw [hA,if_neg (fun h=>by rw [hq] at h;cases h.1)])
  ·simp only [T7,b13,tb4,↓vcPre,↓z0,↓reduceIte,vcPost,vcStd,Nat.reduceEqDiff,reduceCtorEq,Nat.reduceAdd,Nat.reduceLeDiff,Int.reduceLT,Int.reduceLE,↓u_setN]
   refine (c81 b.a hb).Q ?_
   by_cases har:atRight b.a
   ·rw [show decide (atRight b.a)=true by simpa using har]
    simp only [T7,b13,b0,↓vcPre,↓z0,↓reduceIte,vcPost,vcStd,Nat.reduceEqDiff,reduceCtorEq,Nat.reduceAdd,Nat.reduceLeDiff,Int.reduceLT,Int.reduceLE,↓u_setN]
    refine ⟨fun hpe => ?_,fun hpe => ?_⟩
    ·simp only [T8,hzz,z9,↓vcPre,↓z0,↓reduceIte,vcPost,vcStd,Nat.reduceEqDiff,reduceCtorEq,Nat.reduceAdd,Nat.reduceLeDiff,Int.reduceLT,Int.reduceLE,↓u_setN]
     exact no (by rw [hA,if_neg (fun h=>by have:=h.2.2;unfold hiddenA at this;rw [decide_eq_true hpe] at this;cases this)])
    ·obtain ⟨p,hp,_,hfl⟩:=hr.atf (k:=m) (by simpa using hm)
     have eg:(c.ps.map Peer.c)[m]'(by simpa using hm)=c.ps[m].c:=List.getElem_map ..
     rw [eg] at hfl
     obtain ⟨p',hp',hrd⟩:=hfl 0 (by simp [Peer.c])
     have hrd':∀ U,Store.sub σ U→rd U 1 p'=some [.int .u32 c.ps[m].asn]:=fun U sU2=>hrd U sU2 1
     have hrT:=hrd' T sT
     have hdi:decide (c.ps[m].asn=c.asn)=innerA c c.ps[m]:=rfl
     have hfk:=hf _ (List.getElem_mem hm)
     have hd0:decide (b.peer=(m:Int))=false:=by simpa using hpe
     have hHid:hiddenA c m c.ps[m] b=((b.inr && innerA c c.ps[m]) || (decide ((4294967042:Int) ∈ b.a.cms) || (decide ((4294967041:Int) ∈ b.a.cms) && !innerA c c.ps[m]))):=by unfold hiddenA;rw [hd0];rfl
     rw [hHid] at hA
     have hT:tailT c c.ps[m] q (startT c c.ps[m] b.a)=toldA c m q b→∀ t',Store.sub σ t'→t' p8=some (.box (tailT c c.ps[m] q (startT c c.ps[m] b.a)).1.c)→(tailT c c.ps[m] q (startT c c.ps[m] b.a)).2=true → @EndQ [(8,.ptr p8 0),(9,.bool true)] t' ⟨Ts31.F42.slots,fun r s=>s=σ∧r = .tup [.agg (toldA c m q b).1.c,.bool (toldA c m q b).2]⟩:=fun hA2 t' w1 w2 w3=>by
      rw [←hA2]
      refine EndQ.to σ (.tup [.agg (tailT c c.ps[m] q (startT c c.ps[m] b.a)).1.c,.bool true]) ?_ w1 ⟨rfl,by rw [w3]⟩
      show Env.res [(8,AV.ptr p8 0),(9,.bool true)] _ [RS.c 8 9 true,RS.t 9]=_
      simp only [w2,e9,t9,Nat.le_refl,↓vcPre,↓z0,↓reduceIte,vcPost,vcStd,Nat.reduceEqDiff,reduceCtorEq,Nat.reduceAdd,Nat.reduceLeDiff,Int.reduceLT,Int.reduceLE,↓u_setN]
     have hF:tailT c c.ps[m] q (startT c c.ps[m] b.a)=toldA c m q b→∀ t',Store.sub σ t'→t' p8=some (.box zCells)→tailT c c.ps[m] q (startT c c.ps[m] b.a)=(zeroAt,false) → @EndQ [(8,.ptr p8 0),(9,.bool false)] t' ⟨Ts31.F42.slots,fun r s=>s=σ∧r = .tup [.agg (toldA c m q b).1.c,.bool (toldA c m q b).2]⟩:=fun hA2 t' w1 w2 w3=>by
      rw [←hA2,w3]
      refine EndQ.two (.agg zCells) (.bool false) σ ?_ ?_
      ·show Env.res [(8,AV.ptr p8 0),(9,.bool false)] _ [RS.c 8 9 true,RS.t 9]=_
       simp only [w2,z9,y9,Nat.le_refl,↓vcPre,↓z0,↓reduceIte,vcPost,vcStd,Nat.reduceEqDiff,reduceCtorEq,Nat.reduceAdd,Nat.reduceLeDiff,Int.reduceLT,Int.reduceLE,↓u_setN]
      ·exact WeakL.pos 0 rfl (vg (WeakL.forget w1 (WeakL.pure ⟨rfl,rfl⟩)))
     clear hfl hrd
     have hno:((b.inr && innerA c c.ps[m]) || (decide ((4294967042:Int) ∈ b.a.cms) || (decide ((4294967041:Int) ∈ b.a.cms) && !innerA c c.ps[m])))=true→toldA c m q b=(zeroAt,false):=fun h=>by rw [hA,if_neg (fun x=>by rw [h] at x;cases x.2.2)]
     have hyes:((b.inr && innerA c c.ps[m]) || (decide ((4294967042:Int) ∈ b.a.cms) || (decide ((4294967041:Int) ∈ b.a.cms) && !innerA c c.ps[m])))=false→tailT c c.ps[m] q (startT c c.ps[m] b.a)=toldA c m q b:=fun h=>by rw [hA,if_pos ⟨hq,har,h⟩]
     have q1:=c82 b.a.cms hb.2.2 4294967042
     have q2:=c82 b.a.cms hb.2.2 4294967041
     have fin:=fun (h:((b.inr && innerA c c.ps[m]) || (decide ((4294967042:Int) ∈ b.a.cms) || (decide ((4294967041:Int) ∈ b.a.cms) && !innerA c c.ps[m])))=false) (E:List (Nat×AV)) (nn:Env→Store→Prop) (xx:Nat→Env→Store→Prop)=>z8a (n:=nn) (rr:=fun e τ => @EndQ e τ ⟨Ts31.F42.slots,fun r s=>s=σ∧r = .tup [.agg (toldA c m q b).1.c,.bool (toldA c m q b).2]⟩) (xx:=xx) b hb har hm hfk hr T4 T6 T7 T8 sT h8 E (hT (hyes h)) (hF (hyes h))
     simp only [T4,c7,f0,f3,hp,hp',hrT,↓vcPre,↓z0,↓reduceIte,vcPost,vcStd,Nat.reduceEqDiff,reduceCtorEq,Nat.reduceAdd,Nat.reduceLeDiff,Int.reduceLT,Int.reduceLE,↓u_setN]
     clear hA hHid hT hF
     generalize decide ((4294967042:Int) ∈ b.a.cms)=d1 at q1 hno hyes fin
     generalize decide ((4294967041:Int) ∈ b.a.cms)=d2 at q2 hno hyes fin
     have hbx:List.take 1 (List.drop 3 b.c)=[.bool b.inr]:=rfl
     by_cases hyc:c.ps[m].asn=c.asn
     ·have hi:innerA c c.ps[m]=true:=by simp [innerA,hyc]
      have hdt:(decide (c.ps[m].asn=c.asn))=true:=by simpa using hyc
      rw [hi] at hno hyes fin
      cases hbi:b.inr
      ·rw [hbi] at hno hyes fin hbx
       simp only [hbx,hyc,b12,↓vcPre,↓z0,↓reduceIte,vcPost,vcStd,Nat.reduceEqDiff,reduceCtorEq,Nat.reduceAdd,Nat.reduceLeDiff,Int.reduceLT,Int.reduceLE,↓u_setN]
       refine q1.Q ?_
       cases d1
       ·simp only [T7,b13,b12,↓vcPre,↓z0,↓reduceIte,vcPost,vcStd,Nat.reduceEqDiff,reduceCtorEq,Nat.reduceAdd,Nat.reduceLeDiff,Int.reduceLT,Int.reduceLE,↓u_setN]
        refine q2.Q ?_
        cases d2
        ·simp only [↓vcPre,↓z0,↓reduceIte,vcPost,vcStd,Nat.reduceEqDiff,reduceCtorEq,Nat.reduceAdd,Nat.reduceLeDiff,Int.reduceLT,Int.reduceLE,↓u_setN]
         first | exact fin rfl _ _ _ | (rw [hdt];exact fin rfl _ _ _)
        ·simp only [hyc,↓vcPre,↓z0,↓reduceIte,vcPost,vcStd,Nat.reduceEqDiff,reduceCtorEq,Nat.reduceAdd,Nat.reduceLeDiff,Int.reduceLT,Int.reduceLE,↓u_setN]
         first | exact fin rfl _ _ _ | (rw [hdt];exact fin rfl _ _ _)
       ·simp only [T8,hzz,z9,↓vcPre,↓z0,↓reduceIte,vcPost,vcStd,Nat.reduceEqDiff,reduceCtorEq,Nat.reduceAdd,Nat.reduceLeDiff,Int.reduceLT,Int.reduceLE,↓u_setN]
        exact no (hno rfl)
      ·rw [hbi] at hno hyes fin hbx
       simp only [hbx,hyc,b12,T8,hzz,z9,↓vcPre,↓z0,↓reduceIte,vcPost,vcStd,Nat.reduceEqDiff,reduceCtorEq,Nat.reduceAdd,Nat.reduceLeDiff,Int.reduceLT,Int.reduceLE,↓u_setN]
       exact no (hno rfl)
     ·have hi:innerA c c.ps[m]=false:=by simp [innerA,hyc]
      have hdf:decide (c.ps[m].asn=c.asn)=false:=by simpa using hyc
      rw [hi] at hno hyes fin
      cases hbi:b.inr
      ·rw [hbi] at hno hyes fin hbx
       simp only [hbx,hdf,b12,↓vcPre,↓z0,↓reduceIte,vcPost,vcStd,Nat.reduceEqDiff,reduceCtorEq,Nat.reduceAdd,Nat.reduceLeDiff,Int.reduceLT,Int.reduceLE,↓u_setN]
       refine q1.Q ?_
       cases d1
       ·simp only [T7,b13,b12,↓vcPre,↓z0,↓reduceIte,vcPost,vcStd,Nat.reduceEqDiff,reduceCtorEq,Nat.reduceAdd,Nat.reduceLeDiff,Int.reduceLT,Int.reduceLE,↓u_setN]
        refine q2.Q ?_
        cases d2
        ·simp only [↓vcPre,↓z0,↓reduceIte,vcPost,vcStd,Nat.reduceEqDiff,reduceCtorEq,Nat.reduceAdd,Nat.reduceLeDiff,Int.reduceLT,Int.reduceLE,↓u_setN]
         first | exact fin rfl _ _ _ | (rw [hdf];exact fin rfl _ _ _)
        ·simp only [hdf,T8,hzz,z9,↓vcPre,↓z0,↓reduceIte,vcPost,vcStd,Nat.reduceEqDiff,reduceCtorEq,Nat.reduceAdd,Nat.reduceLeDiff,Int.reduceLT,Int.reduceLE,↓u_setN]
         exact no (hno rfl)
       ·simp only [T8,hzz,z9,↓vcPre,↓z0,↓reduceIte,vcPost,vcStd,Nat.reduceEqDiff,reduceCtorEq,Nat.reduceAdd,Nat.reduceLeDiff,Int.reduceLT,Int.reduceLE,↓u_setN]
        exact no (hno rfl)
      ·rw [hbi] at hno hyes fin hbx
       simp only [hbx,b12,↓vcPre,↓z0,↓reduceIte,vcPost,vcStd,Nat.reduceEqDiff,reduceCtorEq,Nat.reduceAdd,Nat.reduceLeDiff,Int.reduceLT,Int.reduceLE,↓u_setN]
       refine ⟨fun _ => ?_,fun h=>absurd h hyc⟩
       refine q1.Q ?_
       cases d1
       ·simp only [T7,b13,b12,↓vcPre,↓z0,↓reduceIte,vcPost,vcStd,Nat.reduceEqDiff,reduceCtorEq,Nat.reduceAdd,Nat.reduceLeDiff,Int.reduceLT,Int.reduceLE,↓u_setN]
        refine q2.Q ?_
        cases d2
        ·simp only [↓vcPre,↓z0,↓reduceIte,vcPost,vcStd,Nat.reduceEqDiff,reduceCtorEq,Nat.reduceAdd,Nat.reduceLeDiff,Int.reduceLT,Int.reduceLE,↓u_setN]
         first | exact fin rfl _ _ _ | (rw [hdf];exact fin rfl _ _ _)
        ·simp only [hdf,T8,hzz,z9,↓vcPre,↓z0,↓reduceIte,vcPost,vcStd,Nat.reduceEqDiff,reduceCtorEq,Nat.reduceAdd,Nat.reduceLeDiff,Int.reduceLT,Int.reduceLE,↓u_setN]
         exact no (hno rfl)
       ·simp only [T8,hzz,z9,↓vcPre,↓z0,↓reduceIte,vcPost,vcStd,Nat.reduceEqDiff,reduceCtorEq,Nat.reduceAdd,Nat.reduceLeDiff,Int.reduceLT,Int.reduceLE,↓u_setN]
        exact no (hno rfl)
   ·rw [show decide (atRight b.a)=false by simpa using har]
    simp only [T8,hzz,z9,↓vcPre,↓z0,↓reduceIte,vcPost,vcStd,Nat.reduceEqDiff,reduceCtorEq,Nat.reduceAdd,Nat.reduceLeDiff,Int.reduceLT,Int.reduceLE,↓u_setN]
    exact no (by rw [hA,if_neg (fun h=>har h.2.1)])
 ·refine no ?_
  unfold toldA
  by_cases hx:chkA c=0∧0≤k
  ·rw [if_pos hx,List.getElem?_eq_none (by omega)]
  ·rw [if_neg hx]
end Go.Am
namespace Go.Am
open Go.Proofs Go.Sort
theorem w0:zeroAt.ok:=⟨by decide,(fun s hs=>by cases hs),by decide⟩
theorem z8f (c:Cfg) (k:Int) (q:Int×Int) (b:PathR) (hb:b.a.ok):(toldA c k q b).1.ok:=by
 unfold toldA
 split
 ·split
  ·exact w0
  ·rename_i p _
   split
   ·rename_i h
    have har:=h.2.1
    have hcan:(canonA b.a).ok:=y6 hb
    have hcp:(canonA b.a).path.length≤16:=har.2.1.2
    have hcc:(canonA b.a).cms.length≤32:=by have:=x4 b.a.cms;have:=har.2.2.2.2.2.1;simp only [canonA];omega
    have hS:(startT c p b.a).ok∧(startT c p b.a).path.length≤900000∧(startT c p b.a).cms.length≤900000:=by
     unfold startT
     split
     ·exact ⟨hcan,by simp only;omega,by simp only;omega⟩
     ·have h16:=xn c.asn 1 (canonA b.a).path
      exact ⟨⟨by simp only;omega,ww c.asn 1 _ hcan.2.1,hcan.2.2⟩,by simp only;omega,by simp only;omega⟩
    have hap:=ut (rs:=p.out) (x:=c.asn) (q:=q) hS.1 hS.2.1 hS.2.2
    unfold tailT
    split
    ·show (lastT c p _).ok
     unfold lastT;split <;> exact hap
    ·exact w0
   ·exact w0
 ·exact w0
theorem s15 {σ:Store} (c:Cfg) (hf:∀ p ∈ c.ps,p.fit) (k:Int) (q:Int×Int) (b:PathR) (hb:b.a.ok) {lv:AV} (hr:Rd 4 σ (c.ps.map Peer.c) lv) :
 ACalls Tryz.prog 15 [.agg (c.cV lv),.int .i64 k,.agg [.int .u32 q.1,.int .i64 q.2],.agg b.c] σ (fun r s=>s=σ∧r = .bool true):=by
 refine zk Tst.F15 (by simp [Tst.F15,Fn.mkX]) ?_
 simp only [Tst.F15,Fn.mkX,Tst.b15,yk]
 have e9:∀ y:At,y.c.length=9:=fun _=>rfl
 have t9:∀ y:At,List.take 9 y.c=y.c:=fun _=>rfl
 have hz:∀ y:At,splice 0 y.c zCells=some y.c:=fun _=>rfl
 have c7:∀ v,(c.cV v).length=7:=fun _=>rfl
 have t7:∀ v,List.take 7 (c.cV v)=c.cV v:=fun _=>rfl
 have b13:b.c.length=13:=rfl
 have t13:List.take 13 b.c=b.c:=rfl
 simp only [↓vcPre,↓z0,↓reduceIte,vcPost,vcStd,Nat.reduceEqDiff,reduceCtorEq,Nat.reduceAdd,Nat.reduceLeDiff,Int.reduceLT,Int.reduceLE,↓u_setN]
 refine AllocQ.i0 fun p4 h4 => ?_
 simp only [↓vcPre,↓z0,↓reduceIte,vcPost,vcStd,Nat.reduceEqDiff,reduceCtorEq,Nat.reduceAdd,Nat.reduceLeDiff,Int.reduceLT,Int.reduceLE,↓u_setN]
 refine AllocQ.i1 fun p6 h64 h46 h6 => ?_
 simp only [↓vcPre,↓z0,↓reduceIte,vcPost,vcStd,Nat.reduceEqDiff,reduceCtorEq,Nat.reduceAdd,Nat.reduceLeDiff,Int.reduceLT,Int.reduceLE,↓u_setN]
 refine AllocQ.i2 fun p7 h74 h47 h76 h67 h7 => ?_
 have sT:Store.sub σ (((σ.set p4 (.box (c.cV lv))).set p6 (.box [.int .u32 q.1,.int .i64 q.2])).set p7 (.box b.c)):=za (zp h4 h6 h64) h7
 have T7:=Store.set_same ((σ.set p4 (.box (c.cV lv))).set p6 (.box [.int .u32 q.1,.int .i64 q.2])) p7 (.box b.c)
 have T6:(((σ.set p4 (.box (c.cV lv))).set p6 (.box [.int .u32 q.1,.int .i64 q.2])).set p7 (.box b.c)) p6=some (.box [.int .u32 q.1,.int .i64 q.2]):=by rw [Store.set_ne _ _ h67];exact Store.set_same _ _ _
 have T4:(((σ.set p4 (.box (c.cV lv))).set p6 (.box [.int .u32 q.1,.int .i64 q.2])).set p7 (.box b.c)) p4=some (.box (c.cV lv)):=by rw [Store.set_ne _ _ h47,Store.set_ne _ _ h46];exact Store.set_same _ _ _
 generalize (((σ.set p4 (.box (c.cV lv))).set p6 (.box [.int .u32 q.1,.int .i64 q.2])).set p7 (.box b.c))=T at sT T4 T6 T7 ⊢
 have hok:=z8f c k q b hb
 have h1:=s41 (σ:=T) c hf k q b hb (hr.mono sT)
 have h2:=fun (U:Store) (hU:Store.sub σ U)=>s42 (σ:=U) c hf k q b hb (hr.mono hU)
 generalize toldA c k q b=R at hok h1 h2
 simp only [T4,T6,T7,c7,t7,b13,t13,↓vcPre,↓z0,↓reduceIte,vcPost,vcStd,Nat.reduceEqDiff,reduceCtorEq,Nat.reduceAdd,Nat.reduceLeDiff,Int.reduceLT,Int.reduceLE,↓u_setN]
 refine h1.Q ?_
 rintro v T ⟨rfl,rfl⟩
 simp only [↓vcPre,↓z0,↓reduceIte,vcPost,vcStd,Nat.reduceEqDiff,reduceCtorEq,Nat.reduceAdd,Nat.reduceLeDiff,Int.reduceLT,Int.reduceLE,↓u_setN]
 refine AllocQ.i0 fun p9 h9 => ?_
 simp only [hz,e9,↓vcPre,↓z0,↓reduceIte,vcPost,vcStd,Nat.reduceEqDiff,reduceCtorEq,Nat.reduceAdd,Nat.reduceLeDiff,Int.reduceLT,Int.reduceLE,↓u_setN]
 have sU:Store.sub T ((T.set p9 (.box zCells)).set p9 (.box R.1.c)):=za (Store.sub_set _ _ _ h9) h9
 have U9:=Store.set_same (T.set p9 (.box zCells)) p9 (.box R.1.c)
 generalize (T.set p9 (.box zCells)).set p9 (.box R.1.c)=U at sU U9 ⊢
 have U4:=sU _ _ T4
 have U6:=sU _ _ T6
 have U7:=sU _ _ T7
 have sU2:=Store.sub_trans sT sU
 simp only [U4,U6,U7,c7,t7,b13,t13,↓vcPre,↓z0,↓reduceIte,vcPost,vcStd,Nat.reduceEqDiff,reduceCtorEq,Nat.reduceAdd,Nat.reduceLeDiff,Int.reduceLT,Int.reduceLE,↓u_setN]
 refine (h2 U sU2).Q ?_
 rintro v U ⟨rfl,rfl⟩
 simp only [↓vcPre,↓z0,↓reduceIte,vcPost,vcStd,Nat.reduceEqDiff,reduceCtorEq,Nat.reduceAdd,Nat.reduceLeDiff,Int.reduceLT,Int.reduceLE,↓u_setN]
 refine AllocQ.i0 fun p11 h11 => ?_
 simp only [hz,e9,↓vcPre,↓z0,↓reduceIte,vcPost,vcStd,Nat.reduceEqDiff,reduceCtorEq,Nat.reduceAdd,Nat.reduceLeDiff,Int.reduceLT,Int.reduceLE,↓u_setN]
 have sV:Store.sub U ((U.set p11 (.box zCells)).set p11 (.box R.1.c)):=za (Store.sub_set _ _ _ h11) h11
 have V11:=Store.set_same (U.set p11 (.box zCells)) p11 (.box R.1.c)
 generalize (U.set p11 (.box zCells)).set p11 (.box R.1.c)=V at sV V11 ⊢
 have V9:=sV _ _ U9
 simp only [V9,V11,e9,t9,↓vcPre,↓z0,↓reduceIte,vcPost,vcStd,Nat.reduceEqDiff,reduceCtorEq,Nat.reduceAdd,Nat.reduceLeDiff,Int.reduceLT,Int.reduceLE,↓u_setN]
 refine (c43 R.1 R.1 hok hok).Q ?_
 rw [decide_eq_true rfl]
 simp only [↓vcPre,↓z0,↓reduceIte,vcPost,vcStd,Nat.reduceEqDiff,reduceCtorEq,Nat.reduceAdd,Nat.reduceLeDiff,Int.reduceLT,Int.reduceLE,↓u_setN]
 exact EndQ.to σ _ rfl (Store.sub_trans sU2 sV) ⟨rfl,by simp⟩
end Go.Am
namespace Go.Am.Ts32
open Go.Proofs Go.Am.B
def t4_15:BC := .seq (z [j 15 (-1)] [1,5,7,8,11,12,13,15] (.block 0 (.loop [1,5,7,8,11,12,13,15] (.seq (z [m 84 15,c 85 .lss 84 5] [1,5,7,8,11,12,13,15,85] (.cond (.t 85) .skip (.exit 0))) (.seq (.block 1 (z [⟨some 88,none,.load (.ld 7 true),[.t 11]⟩,m 89 15,⟨some 90,none,.load (.ld 2 true),[.t 12]⟩,⟨some 91,none,.load (.ld 13 true),[.t 13]⟩,g 92 15 [.t 88,.t 89,.t 90,.t 91],u 93 .not 92,m 94 93,⟨some 95,some (94,false),.load (.ld 7 true),[.t 11]⟩,⟨some 96,some (94,false),.pure (.mov),[.t 15]⟩,⟨some 97,some (94,false),.load (.ld 2 true),[.t 7]⟩,⟨some 98,some (94,false),.load (.ld 13 true),[.t 8]⟩,⟨some 99,some (94,false),.loud (.call 15),[.t 95,.t 96,.t 97,.t 98]⟩,⟨some 100,some (94,false),.pure (.not),[.t 99]⟩,⟨some 101,none,.pick,[.t 94,.c (.bool true),.t 100]⟩] [1,5,7,8,11,12,13,15,101] (.cond (.t 101) (z [k 10 (.bool false)] [10] .ret) .skip))) (.ops [m 86 15,c 87 .add 86 1,m 15 87] [1,5,7,8,11,12,13,15])))))) (z [⟨some 102,none,.load (.ld 7 true),[.t 5]⟩,m 103 1,⟨some 104,none,.load (.ld 2 true),[.t 7]⟩,⟨some 105,none,.load (.ld 13 true),[.t 8]⟩,g 106 15 [.t 102,.t 103,.t 104,.t 105],m 107 106,⟨some 108,some (107,true),.loud (.call 17),[]⟩,⟨some 109,none,.pick,[.t 107,.t 108,.c (.bool false)]⟩,m 10 109] [10] .ret)
def t4_73:BC := .seq (z [⟨some 73,none,.load (.ld 13 true),[.t 8]⟩,⟨some 74,none,.load (.ld 13 true),[.t 9]⟩,g 75 16 [.t 73,.t 74],m 76 14,p 77 (.eqb true) [.t 75,.t 76],m 78 77,⟨some 79,some (78,false),.load (.ld 13 true),[.t 8]⟩,⟨some 80,some (78,false),.load (.ld 13 true),[.t 8]⟩,⟨some 81,some (78,false),.loud (.call 16),[.t 79,.t 80]⟩,⟨some 82,some (78,false),.pure (.not),[.t 81]⟩,⟨some 83,none,.pick,[.t 78,.c (.bool true),.t 82]⟩] [1,5,7,8,11,12,13,83] (.cond (.t 83) (z [k 10 (.bool false)] [10] .ret) .skip)) t4_15
def t4_31:BC:=z [⟨some 31,none,.load (.ld 13 true),[.t 8]⟩,⟨some 13,none,.alloc (.alloc [(.int .i64 0),(.int .u32 0),(.int .u32 0),(.bool false),(.int .i64 0),.nils,(.int .u32 0),(.bool false),(.int .u32 0),(.bool false),(.int .u32 0),(.bool false),.nils]),[]⟩,s 13 13 31] [1,5,7,8,9,11,12,13] (z [f 32 4 8,⟨some 33,none,.load (.ld 9 true),[.t 32]⟩,g 34 14 [.t 33,.c (.int .u32 65001)],f 35 4 13,s 9 35 34] [1,5,7,8,9,11,12,13] (z [f 36 0 8,l 37 1 36,c 38 .rem 37 4,f 39 0 13,s 1 39 38] [1,5,7,8,9,11,12,13] (z [f 40 0 8,l 41 1 40,f 42 0 9,l 43 1 42,b 44 .eql 41 43,m 45 44,⟨some 46,some (45,true),.pure (.fld 1),[.t 8]⟩,⟨some 47,some (45,true),.load (.ld 1 false),[.t 46]⟩,⟨some 48,some (45,true),.pure (.fld 1),[.t 9]⟩,⟨some 49,some (45,true),.load (.ld 1 false),[.t 48]⟩,⟨some 50,some (45,true),.pure (.bin .eql),[.t 47,.t 49]⟩,⟨some 51,none,.pick,[.t 45,.t 50,.c (.bool false)]⟩,m 52 51,⟨some 53,some (52,true),.pure (.fld 2),[.t 8]⟩,⟨some 54,some (52,true),.load (.ld 1 false),[.t 53]⟩,⟨some 55,some (52,true),.pure (.fld 2),[.t 9]⟩,⟨some 56,some (52,true),.load (.ld 1 false),[.t 55]⟩,⟨some 57,some (52,true),.pure (.bin .eql),[.t 54,.t 56]⟩,⟨some 58,none,.pick,[.t 52,.t 57,.c (.bool false)]⟩,m 59 58,⟨some 60,some (59,true),.pure (.fld 3),[.t 8]⟩,⟨some 61,some (59,true),.load (.ld 1 false),[.t 60]⟩,⟨some 62,some (59,true),.pure (.fld 3),[.t 9]⟩,⟨some 63,some (59,true),.load (.ld 1 false),[.t 62]⟩,⟨some 64,some (59,true),.pure (.eqb false),[.t 61,.t 63]⟩,⟨some 65,none,.pick,[.t 59,.t 64,.c (.bool false)]⟩,m 66 65,⟨some 67,some (66,true),.pure (.fld 4),[.t 8]⟩,⟨some 68,some (66,true),.load (.ld 9 true),[.t 67]⟩,⟨some 69,some (66,true),.pure (.fld 4),[.t 9]⟩,⟨some 70,some (66,true),.load (.ld 9 true),[.t 69]⟩,⟨some 71,some (66,true),.loud (.call 20),[.t 68,.t 70]⟩,⟨some 72,none,.pick,[.t 66,.t 71,.c (.bool false)]⟩,m 14 72] [1,5,7,8,9,11,12,13,14] t4_73)))
def b4:BC:=z [⟨some 5,none,.alloc (.box),[.t 0]⟩,⟨some 7,none,.alloc (.box),[.t 2]⟩,⟨some 8,none,.alloc (.box),[.t 3]⟩,⟨some 9,none,.alloc (.box),[.t 4]⟩,k 10 (.bool false)] [1,5,7,8,9] (z [⟨some 16,none,.load (.ld 7 true),[.t 5]⟩,g 17 13 [.t 16],⟨some 11,none,.alloc (.alloc [(.int .u32 0),(.int .u32 0),(.int .i64 0),.nils,(.int .i64 0),(.int .i64 0),(.int .i64 0)]),[]⟩,s 7 11 17] [1,5,7,8,9,11] (z [f 18 4 8,⟨some 19,none,.load (.ld 9 true),[.t 18]⟩,g 20 18 [.t 19],f 21 4 8,s 9 21 20] [1,5,7,8,9,11] (z [f 22 4 9,⟨some 23,none,.load (.ld 9 true),[.t 22]⟩,g 24 18 [.t 23],f 25 4 9,s 9 25 24] [1,5,7,8,9,11] (z [f 26 0 7,l 27 1 26,f 28 1 7,l 29 1 28,g 30 19 [.t 27,.t 29],⟨some 12,none,.alloc (.alloc [(.int .u32 0),(.int .i64 0)]),[]⟩,s 2 12 30] [1,5,7,8,9,11,12] t4_31))))
end Go.Am.Ts32
namespace Go.Am
open Go.Proofs Go.Sort
def RP (τ:Store) (id:Nat) (R:List Int) (bad:Bool) (s:Store):Prop:=τ id=none∧Store.sub τ s∧s id=some (.box [.sl 1 (R.map cB),.bool bad])
theorem RP.mono {τ s s':Store} {id:Nat} {R:List Int} {bad:Bool} (h:RP τ id R bad s) (hs:Store.sub s s'):RP τ id R bad s':=⟨h.1,Store.sub_trans h.2.1 hs,hs _ _ h.2.2⟩
def RF (τ:Store) (id:Nat) (v:AV) (B:List Int) (at_:Nat) (lack:Bool) (s:Store):Prop:=τ id=none∧Store.sub τ s∧s id=some (.box [v,.int .i64 (at_:Int),.bool lack])∧Rd 1 τ (B.map cB) v∧at_≤B.length
theorem RF.mono {τ s s':Store} {id:Nat} {v:AV} {B:List Int} {at_:Nat} {lack:Bool} (h:RF τ id v B at_ lack s) (hs:Store.sub s s'):RF τ id v B at_ lack s':=⟨h.1,Store.sub_trans h.2.1 hs,hs _ _ h.2.2.1,h.2.2.2⟩
end Go.Am
namespace Go.Am
open Go.Proofs Go.Sort
def segV (x:Seg) (v:AV):List AV:=[.int .i64 x.kind,v]
def OwnsL (τ:Store):List Seg→List AV→Store→Prop
 | [],[],_=>True
 | x::p,v::vs,s=>(x.ls=[]∧v = .nils∧OwnsL τ p vs s)∨(∃ g,v = .os g 1 0 x.ls.length∧τ g=none∧s g=some (.arr 1 (x.ls.map cU))∧OwnsL τ p vs (s.del g))
 | _,_,_=>False
theorem z85 {s s':Store} (h:Store.sub s s') (g:Nat):Store.sub (s.del g) (s'.del g):=fun j o hj=>by
 by_cases e:j=g
 ·subst e;simp at hj
 ·rw [Store.del_ne _ e] at hj ⊢;exact h j o hj
theorem OwnsL.mono {τ:Store}:∀ {p:List Seg} {vs:List AV} {s s':Store},OwnsL τ p vs s→Store.sub s s'→OwnsL τ p vs s'
 | [],[],_,_,_,_=>trivial
 | _::_,_::_,_,_,h,hs=>by
   rcases h with ⟨h1,h2,h⟩ | ⟨g,h1,h2,h3,h⟩
   ·exact .inl ⟨h1,h2,h.mono hs⟩
   ·exact .inr ⟨g,h1,h2,hs _ _ h3,h.mono (z85 hs g)⟩
 | [],_::_,_,_,h,_=>h.elim
 | _::_,[],_,_,h,_=>h.elim
theorem WeakL.imp {xs bs:List AV} {σ:Store} {Q:List AV→Store→Prop} (h:Rels Imp xs bs) (hq:WeakL bs σ Q):WeakL xs σ Q:=fun G w vs hs hr=>by
 refine hq G w vs hs ?_
 clear hq hs
 induction h generalizing vs with
 | nil=>exact hr
 | cons h1 _ ih=>cases hr with | cons r1 r2=>exact .cons (h1.2 _ _ _ r1) (ih _ r2)
def OwnQ (τ:Store) (p:List Seg) (v:AV) (s:Store):Prop:=∃ vs,OwnsL τ p vs s∧Own 2 τ (List.zipWith segV p vs) v s
theorem OwnQ.nil {τ s:Store}:OwnQ τ [] .nils s:=⟨[],trivial,.inl ⟨rfl,rfl⟩⟩
theorem OwnQ.mono {τ s s':Store} {p:List Seg} {v:AV} (h:OwnQ τ p v s) (hs:Store.sub s s'):OwnQ τ p v s':=by
 obtain ⟨vs,h1,h2⟩:=h
 exact ⟨vs,h1.mono hs,h2.mono hs⟩
end Go.Am
namespace Go.Am.Ts33
open Go.Proofs Go.Am.B
def t3_136:BC:=z [p 136 (.build [(.int .i64 0),.nils,(.int .u32 0),(.bool false),(.int .u32 0),(.bool false),(.int .u32 0),(.bool false),.nils] [(4,1)]) [.c (.int .u32 5)],p 137 (.build [(.int .i64 0),(.int .u32 0),(.int .u32 0),(.bool false),(.int .i64 0),.nils,(.int .u32 0),(.bool false),(.int .u32 0),(.bool false),(.int .u32 0),(.bool false),.nils] [(4,9)]) [.t 136],p 138 (.build [(.int .i64 0),(.int .u32 0),(.int .u32 0),(.bool false),(.int .i64 0),.nils,(.int .u32 0),(.bool false),(.int .u32 0),(.bool false),(.int .u32 0),(.bool false),.nils] []) [],g 139 16 [.t 137,.t 138],m 140 139,⟨some 141,some (140,true),.pure (.build [(.int .i64 0),(.int .u32 0),(.int .u32 0),(.bool false),(.int .i64 0),.nils,(.int .u32 0),(.bool false),(.int .u32 0),(.bool false),(.int .u32 0),(.bool false),.nils] [(1,1)]),[.c (.int .u32 1)]⟩,⟨some 142,some (140,true),.pure (.build [(.int .i64 0),(.int .u32 0),(.int .u32 0),(.bool false),(.int .i64 0),.nils,(.int .u32 0),(.bool false),(.int .u32 0),(.bool false),(.int .u32 0),(.bool false),.nils] []),[]⟩,⟨some 143,some (140,true),.loud (.call 16),[.t 141,.t 142]⟩,⟨some 144,some (140,true),.pure (.not),[.t 143]⟩,⟨some 145,none,.pick,[.t 140,.t 144,.c (.bool false)]⟩,m 146 145,⟨some 147,some (146,true),.loud (.call 17),[]⟩,⟨some 148,none,.pick,[.t 146,.t 147,.c (.bool false)]⟩,m 0 148] [0] .ret
def t3_8:BC := .seq (.wk 37 (.ops [j 8 (-1)] [1,2,4,5,8])) (.block 9 (.loop [1,2,4,5,8] (.seq (z [m 108 8,c 109 .lss 108 5] [1,2,4,5,8,109] (.cond (.t 109) .skip (.exit 9))) (.seq (.block 10 (z [p 112 (.build [(.int .u32 0),(.int .i64 0)] []) [],p 113 (.build [(.int .u32 0),(.int .i64 0)] [(0,1),(1,1)]) [.c (.int .u32 167772160),.c (.int .i64 8)],p 114 (.build [(.int .u32 0),(.int .i64 0)] [(0,1)]) [.c (.int .u32 1)],⟨some 115,none,.alloc (.mksl 2 3),[.t 112,.t 113,.t 114]⟩,u 116 .len 115,j 117 0] [1,2,4,5,8,115,116,117] (.block 11 (.loop [1,2,4,5,8,115,116,117] (z [b 118 .lss 117 116] [1,2,4,5,8,115,116,117,118] (.seq (.cond (.t 118) .skip (.exit 11)) (.seq (.block 12 (z [x 119 2 115 117,⟨some 120,none,.load (.ld 2 true),[.t 119]⟩,⟨some 10,none,.alloc (.alloc [(.int .u32 0),(.int .i64 0)]),[]⟩,s 2 10 120] [1,2,4,5,8,10,115,116,117] (z [⟨some 121,none,.load (.ld 7 true),[.t 1]⟩,m 122 8,⟨some 123,none,.load (.ld 2 true),[.t 10]⟩,⟨some 124,none,.load (.ld 13 true),[.t 5]⟩,g 125 15 [.t 121,.t 122,.t 123,.t 124],u 126 .not 125,m 127 126,⟨some 128,some (127,false),.pure (.build [(.int .u32 0),(.int .u32 0),(.int .i64 0),.nils,(.int .i64 0),(.int .i64 0),(.int .i64 0)] []),[]⟩,⟨some 129,some (127,false),.pure (.mov),[.t 8]⟩,⟨some 130,some (127,false),.load (.ld 2 true),[.t 10]⟩,⟨some 131,some (127,false),.load (.ld 13 true),[.t 5]⟩,⟨some 132,some (127,false),.loud (.call 15),[.t 128,.t 129,.t 130,.t 131]⟩,⟨some 133,some (127,false),.pure (.not),[.t 132]⟩,⟨some 134,none,.pick,[.t 127,.c (.bool true),.t 133]⟩] [1,2,4,5,8,115,116,117,134] (.cond (.t 134) (z [k 0 (.bool false)] [0] .ret) .skip)))) (.ops [c 135 .add 117 1,m 117 135] [1,2,4,5,8,115,116,117])))))))) (.ops [m 110 8,c 111 .add 110 1,m 8 111] [1,2,4,5,8])))))
def t3_7:BC:=z [j 7 0] [1,2,4,5,7] (.block 7 (.loop [1,2,4,5,7] (.seq (z [m 57 7,c 58 .lss 57 12,m 59 58,⟨some 60,some (59,true),.pure (.mov),[.t 4]⟩,⟨some 61,some (59,true),.pure (.bin .eql),[.t 60,.c (.int .i64 13)]⟩,⟨some 62,none,.pick,[.t 59,.t 61,.c (.bool false)]⟩] [1,2,4,5,7,62] (.cond (.t 62) .skip (.exit 7))) (.seq (.block 8 (.ops [f 65 4 5,f 66 1 65,m 68 2,p 69 (.slice 1 false true) [.t 68,.c (.int .i64 1)],p 70 (.build [(.int .i64 0),.nils] [(0,1),(1,1)]) [.c (.int .i64 1),.t 69],l 67 1 66,⟨some 71,none,.alloc (.mksl 2 1),[.t 70]⟩,⟨some 72,none,.loud (.app 2 32),[.t 67,.t 71]⟩,f 73 4 5,f 74 1 73,s 1 74 72] [1,2,4,5,7])) (.ops [m 63 7,c 64 .add 63 1,m 7 64] [1,2,4,5,7])))))
def t3_36:BC:=z [f 36 4 5,f 37 1 36,⟨none,none,.loud (.st 1),[.t 37,.c .nils]⟩] [1,2,4,5] (.seq (z [j 6 9] [1,2,4,5,6] (.block 5 (.loop [1,2,4,5,6] (.seq (z [m 38 6,m 39 4,c 40 .add 39 2,b 41 .leq 38 40,m 42 41,⟨some 43,some (42,true),.pure (.mov),[.t 6]⟩,⟨some 44,some (42,true),.pure (.bin .lss),[.t 43,.c (.int .i64 13)]⟩,⟨some 45,none,.pick,[.t 42,.t 44,.c (.bool false)]⟩] [1,2,4,5,6,45] (.cond (.t 45) .skip (.exit 5))) (.seq (.block 6 (.ops [f 48 4 5,f 49 1 48,l 50 1 49,m 51 2,p 52 (.build [(.int .i64 0),.nils] [(0,1),(1,1)]) [.c (.int .i64 2),.t 51],⟨some 53,none,.alloc (.mksl 2 1),[.t 52]⟩,⟨some 54,none,.loud (.app 2 32),[.t 50,.t 53]⟩,f 55 4 5,f 56 1 55,s 1 56 54] [1,2,4,5,6])) (.ops [m 46 6,c 47 .add 46 1,m 6 47] [1,2,4,5,6])))))) t3_7)
def t3_4:BC := .seq (.seq (.wk 7 (.ops [j 4 0] [1,2,4])) (.block 2 (.loop [1,2,4] (.seq (z [m 28 4,c 29 .lss 28 14] [1,2,4,29] (.cond (.t 29) .skip (.exit 2))) (.seq (.block 3 (z [p 32 (.build [(.int .i64 0),.nils,(.int .u32 0),(.bool false),(.int .u32 0),(.bool false),(.int .u32 0),(.bool false),.nils] [(3,1),(4,1),(5,1),(6,1)]) [.c (.bool true),.c (.int .u32 2),.c (.bool true),.c (.int .u32 1)],g 33 14 [.t 32,.c (.int .u32 65001)],p 34 (.build [(.int .i64 0),(.int .u32 0),(.int .u32 0),(.bool false),(.int .i64 0),.nils,(.int .u32 0),(.bool false),(.int .u32 0),(.bool false),(.int .u32 0),(.bool false),.nils] [(0,1),(1,1),(4,9)]) [.c (.int .i64 1),.c (.int .u32 7),.t 33],⟨some 5,none,.alloc (.alloc [(.int .i64 0),(.int .u32 0),(.int .u32 0),(.bool false),(.int .i64 0),.nils,(.int .u32 0),(.bool false),(.int .u32 0),(.bool false),(.int .u32 0),(.bool false),.nils]),[]⟩,s 13 5 34] [1,2,4,5] (.seq (z [m 35 4] [1,2,4,5,35] (.block 4 (z [c 76 .eql 35 1,m 75 76] [1,2,4,5,35,75] (.cond (.t 75) (.ops [f 77 3 5,⟨none,none,.loud (.st 1),[.t 77,.c (.bool true)]⟩] [1,2,4,5]) (z [c 79 .eql 35 2,m 78 79] [1,2,4,5,35,78] (.cond (.t 78) (.ops [⟨some 80,none,.alloc (.mksl 1 1),[.c (.int .u32 4294967041)]⟩,f 81 4 5,f 82 8 81,s 1 82 80] [1,2,4,5]) (z [c 84 .eql 35 3,m 83 84] [1,2,4,5,35,83] (.cond (.t 83) (.ops [⟨some 85,none,.alloc (.mksl 1 1),[.c (.int .u32 4294967042)]⟩,f 86 4 5,f 87 8 86,s 1 87 85] [1,2,4,5]) (z [c 89 .eql 35 4,m 88 89] [1,2,4,5,35,88] (.cond (.t 88) (.ops [f 90 4 5,f 91 2 90,⟨none,none,.loud (.st 1),[.t 91,.c (.int .u32 0)]⟩] [1,2,4,5]) (z [c 93 .eql 35 5,m 92 93] [1,2,4,5,35,92] (.cond (.t 92) (.ops [f 94 0 5,⟨none,none,.loud (.st 1),[.t 94,.c (.int .i64 0)]⟩] [1,2,4,5]) (z [c 96 .eql 35 6,m 95 96] [1,2,4,5,35,95] (.cond (.t 95) (.ops [f 97 0 5,⟨none,none,.loud (.st 1),[.t 97,.c (.int .i64 (-1))]⟩] [1,2,4,5]) (z [c 99 .eql 35 7,m 98 99] [1,2,4,5,35,98] (.cond (.t 98) (.ops [f 100 4 5,f 101 5 100,⟨none,none,.loud (.st 1),[.t 101,.c (.bool false)]⟩,f 102 4 5,f 103 6 102,⟨none,none,.loud (.st 1),[.t 103,.c (.int .u32 0)]⟩] [1,2,4,5]) (z [c 105 .eql 35 8,m 104 105] [1,2,4,5,104] (.cond (.t 104) (.ops [f 106 4 5,f 107 1 106,⟨none,none,.loud (.st 1),[.t 107,.c .nils]⟩] [1,2,4,5]) t3_36)))))))))))))))))) t3_8))) (.ops [m 30 4,c 31 .add 30 1,m 4 31] [1,2,4])))))) t3_136
def b3:BC:=z [k 0 (.bool false)] [] (z [p 11 (.build [(.int .u32 0),(.int .u32 0),.nils,.nils] []) [],p 12 (.build [(.int .u32 0),(.int .u32 0),.nils,.nils] [(0,1)]) [.c (.int .u32 1)],p 13 (.build [(.int .u32 0),(.int .u32 0),.nils,.nils] [(0,1)]) [.c (.int .u32 1)],p 14 (.build [(.int .u32 0),(.int .u32 0),.nils,.nils] []) [],⟨some 15,none,.alloc (.mksl 4 4),[.t 11,.t 12,.t 13,.t 14]⟩,p 16 (.build [(.int .u32 0),(.int .u32 0),(.int .i64 0),.nils,(.int .i64 0),(.int .i64 0),(.int .i64 0)] [(3,1)]) [.t 15],g 17 13 [.t 16],⟨some 1,none,.alloc (.alloc [(.int .u32 0),(.int .u32 0),(.int .i64 0),.nils,(.int .i64 0),(.int .i64 0),(.int .i64 0)]),[]⟩,s 7 1 17] [1] (z [⟨some 18,none,.alloc (.make 1 [(.int .u32 0)] 4),[.c (.int .i64 255),.c (.int .i64 255)]⟩,m 2 18] [1,2] (.seq (z [j 3 0] [1,2,3] (.block 0 (.loop [1,2,3] (.seq (z [m 19 3,c 20 .lss 19 255] [1,2,3,20] (.cond (.t 20) .skip (.exit 0))) (.seq (.block 1 (.ops [m 23 2,m 24 3,m 25 3,u 26 (.conv .u32) 25,x 27 1 23 24,s 1 27 26] [1,2,3])) (.ops [m 21 3,c 22 .add 21 1,m 3 22] [1,2,3])))))) t3_4)))
def F3:Fn Tryz.prog 3:=Fn.mkW false [7,37] b3 [.t 0] 149 Tryz.f3 _ Tryz.func3 (by decide) rfl Tryz.ntmps3 (by kernel_rfl) (by kernel_rfl)
end Go.Am.Ts33
namespace Go.Am
open Go.Proofs Go.Sort
theorem z43 {cs ds:List AV} {σ:Store} {Q:AV→Store→Prop} (h:ImpL cs ds) (hq:Q (.agg ds) σ):Weak (.agg cs) σ Q:=Weak.agg (WeakL.imp h (WeakL.pure ⟨h.flat,hq⟩))
theorem z17 {f:Nat} {b:AV} {cells cells':List AV} {s:Store} {Q:AV→Store→Prop} (hi:ImpL cells cells') (h:ACalls Tryz.prog f [.agg cells',b] s Q):ACalls Tryz.prog f [.agg cells,b] s Q :=
 ACalls.weakArgs h.1 (WeakL.pos 0 rfl (z43 hi (WeakL.pure h)))
theorem z28 {f:Nat} {a:AV} {cells cells':List AV} {s:Store} {Q:AV→Store→Prop} (hi:ImpL cells cells') (h:ACalls Tryz.prog f [a,.agg cells'] s Q):ACalls Tryz.prog f [a,.agg cells] s Q :=
 ACalls.weakArgs h.1 (WeakL.pos 1 rfl (z43 hi (WeakL.pure h)))
def zPath:PathR:=⟨0,0,0,false,zeroAt⟩
def mPath:PathR:=⟨0,0,0,false,{ zeroAt with med:=5 }⟩
def iPath:PathR:=⟨0,1,0,false,zeroAt⟩
theorem qp (a b c e i:Int) (f g h j:Bool) (k l:Int):ImpL [AV.int .i64 a,.int .u32 b,.int .u32 c,.bool f,.int .i64 e,.nils,.int .u32 i,.bool g,.int .u32 k,.bool h,.int .u32 l,.bool j,.nils] (⟨a,b,c,f,⟨e,[],i,g,k,h,l,j,[]⟩⟩:PathR).c :=
 .cons (.refl rfl) (.cons (.refl rfl) (.cons (.refl rfl) (.cons (.refl rfl) (.cons (.refl rfl) (.cons .nils (.cons (.refl rfl) (.cons (.refl rfl) (.cons (.refl rfl) (.cons (.refl rfl) (.cons (.refl rfl) (.cons (.refl rfl) (.cons .nils .nil))))))))))))
section
variable {σ:Store} {n rr:Env→Store→Prop} {xx:Nat→Env→Store→Prop}
theorem z58 {T:Store} (E:List (Nat×AV)) (h:rr [(0,.bool true)] T):bwp Tryz.prog Ts33.t3_136 E T n rr xx:=by
 simp only [Ts33.t3_136]
 have s1:sameR mPath zPath=true:=by unfold sameR;rw [show canonA mPath.a=canonA zPath.a from rfl];simp [mPath,zPath]
 have s2:sameR iPath zPath=false:=by unfold sameR;simp [iPath,zPath]
 have ok1:mPath.a.ok:=⟨by decide,(fun s hs=>by cases hs),by decide⟩
 have h1:=c16 mPath zPath ok1 w0
 have h2:=c16 iPath zPath w0 w0
 rw [s1] at h1
 rw [s2] at h2
 simp only [↓vcPre,↓z0,↓reduceIte,vcPost,vcStd,Nat.reduceEqDiff,reduceCtorEq,Nat.reduceAdd,Nat.reduceLeDiff,Int.reduceLT,Int.reduceLE,↓u_setN]
 refine (z17 (qp 0 0 0 0 0 false false false false 5 0) (z28 (qp 0 0 0 0 0 false false false false 0 0) (h1 T))).Q ?_
 rintro _ T ⟨rfl,rfl⟩
 simp only [↓vcPre,↓z0,↓reduceIte,vcPost,vcStd,Nat.reduceEqDiff,reduceCtorEq,Nat.reduceAdd,Nat.reduceLeDiff,Int.reduceLT,Int.reduceLE,↓u_setN]
 refine (z17 (qp 0 1 0 0 0 false false false false 0 0) (z28 (qp 0 0 0 0 0 false false false false 0 0) (h2 T))).Q ?_
 rintro _ T ⟨rfl,rfl⟩
 simp only [↓vcPre,↓z0,↓reduceIte,vcPost,vcStd,Nat.reduceEqDiff,reduceCtorEq,Nat.reduceAdd,Nat.reduceLeDiff,Int.reduceLT,Int.reduceLE,↓u_setN]
 refine (c17).Q ?_
 simp only [↓vcPre,↓z0,↓reduceIte,vcPost,vcStd,Nat.reduceEqDiff,reduceCtorEq,Nat.reduceAdd,Nat.reduceLeDiff,Int.reduceLT,Int.reduceLE,↓u_setN]
 exact h
end
def pl3:List (Int×Int):=[(0,0),(167772160,8),(1,0)]
def cfgZ:Cfg:=⟨0,0,0,[],0,0,0⟩
section
variable {d:Cfg} {B:Store} {n rr:Env→Store→Prop} {xx:Nat→Env→Store→Prop} {p1 p5 g:Nat} {v2 v4:AV}
theorem uk {T:Store} (hd:∀ p ∈ d.ps,p.fit) (B1:B p1=some (.box (d.cV (.os g 4 0 d.ps.length)))) (Bg:B g=some (.arr 4 (d.ps.map Peer.c))) (E:List (Nat×AV))
 (hw:WeakE ((1,.ptr p1 0)::(2,v2)::(4,v4)::(5,.ptr p5 0)::E) T (fun e' T'=>e'=((1,.ptr p1 0)::(2,v2)::(4,v4)::(5,.ptr p5 0)::E)∧∃ b:PathR,b.a.ok∧T' p5=some (.box b.c)∧Store.sub B T'))
 (hn:∀ E' s',Store.sub B s'→n ((1,.ptr p1 0)::(2,v2)::(4,v4)::E') s'):bwp Tryz.prog Ts33.t3_8 ((1,.ptr p1 0)::(2,v2)::(4,v4)::(5,.ptr p5 0)::E) T n rr xx:=by
 simp only [Ts33.t3_8]
 have c7:∀ (c:Cfg) v,(c.cV v).length=7:=fun _ _=>rfl
 have t7:∀ (c:Cfg) v,List.take 7 (c.cV v)=c.cV v:=fun _ _=>rfl
 have b13:∀ b:PathR,b.c.length=13:=fun _=>rfl
 have t13:∀ b:PathR,List.take 13 b.c=b.c:=fun _=>rfl
 simp only [↓vcPre,↓z0,↓reduceIte,vcPost,vcStd,Nat.reduceEqDiff,reduceCtorEq,Nat.reduceAdd,Nat.reduceLeDiff,Int.reduceLT,Int.reduceLE,↓u_setN]
 refine WkQ.of (hw.mono fun e' T' h => ?_)
 obtain ⟨rfl,b,hb,T5,hB⟩:=h
 simp only [↓vcPre,↓z0,↓reduceIte,vcPost,vcStd,Nat.reduceEqDiff,reduceCtorEq,Nat.reduceAdd,Nat.reduceLeDiff,Int.reduceLT,Int.reduceLE,↓u_setN]
 refine LoopQ.inv (S:=Nat) (fun k=>[(1,.ptr p1 0),(2,v2),(4,v4),(5,.ptr p5 0),(8,.int .i64 ((k:Int) - 1))]) (fun _=>T') (fun k=>k≤6) (fun k=>7 - k) 0 rfl (Store.sub_refl _) (by omega) ?_
 intro k hk
 simp only [↓vcPre,↓z0,↓reduceIte,vcPost,vcStd,Nat.reduceEqDiff,reduceCtorEq,Nat.reduceAdd,Nat.reduceLeDiff,Int.reduceLT,Int.reduceLE,↓u_setN]
 refine ⟨fun c1 => ?_,fun c1 => ?_⟩
 ·have ek:IntKind.i64.wrap ((k:Int) - 1+1)=((k+1:Nat):Int) - 1:=by rw [zd (by unfold I64;omega)];omega
  have m3:alv (.mksl 2 3) [AV.agg [.int .u32 0,.int .i64 0],.agg [.int .u32 167772160,.int .i64 8],.agg [.int .u32 1,.int .i64 0]]=some (.arr 2 (pl3.map pxC),fun id => .os id 2 0 3):=rfl
  simp only [m3,↓vcPre,↓z0,↓reduceIte,vcPost,vcStd,Nat.reduceEqDiff,reduceCtorEq,Nat.reduceAdd,Nat.reduceLeDiff,Int.reduceLT,Int.reduceLE,↓u_setN]
  refine AllocQ.i0 fun h hh => ?_
  simp only [↓vcPre,↓z0,↓reduceIte,vcPost,vcStd,Nat.reduceEqDiff,reduceCtorEq,Nat.reduceAdd,Nat.reduceLeDiff,Int.reduceLT,Int.reduceLE,↓u_setN]
  have sU:=Store.sub_set T' h (.arr 2 (pl3.map pxC)) hh
  have Uh:=Store.set_same T' h (.arr 2 (pl3.map pxC))
  generalize T'.set h (.arr 2 (pl3.map pxC))=U at sU Uh ⊢
  have U5:=sU _ _ T5
  have U1:=sU _ _ (hB _ _ B1)
  have Ug:=sU _ _ (hB _ _ Bg)
  refine LoopQ.inv (S:=Nat) (fun j=>[(1,.ptr p1 0),(2,v2),(4,v4),(5,.ptr p5 0),(8,.int .i64 ((k:Int) - 1)),(115,.os h 2 0 3),(116,.int .i64 3),(117,.int .i64 (j:Int))]) (fun _=>U) (fun j=>j≤3) (fun j=>4 - j) 0 rfl (Store.sub_refl _) (by omega) ?_
  intro j hj
  simp only [↓vcPre,↓z0,↓reduceIte,vcPost,vcStd,Nat.reduceEqDiff,reduceCtorEq,Nat.reduceAdd,Nat.reduceLeDiff,Int.reduceLT,Int.reduceLE,↓u_setN]
  refine ⟨fun c2 => ?_,fun c2 => ?_⟩
  ·have ej:IntKind.i64.wrap ((j:Int)+1)=((j+1:Nat):Int):=by rw [zd (by unfold I64;omega)];omega
   have hj3:j<pl3.length:=by show j<3;omega
   simp only [Uh,↓vcPre,↓z0,↓reduceIte,vcPost,vcStd,Nat.reduceEqDiff,reduceCtorEq,Nat.reduceAdd,Nat.reduceLeDiff,Int.reduceLT,Int.reduceLE,↓u_setN]
   refine ⟨by omega,by show 0+j<3;omega,Nat.le_refl 2,?_⟩
   refine AllocQ.i0 fun p10 h10 => ?_
   simp only [↓vcPre,↓z0,↓reduceIte,vcPost,vcStd,Nat.reduceEqDiff,reduceCtorEq,Nat.reduceAdd,Nat.reduceLeDiff,Int.reduceLT,Int.reduceLE,↓u_setN]
   generalize pl3[0+j]=q
   refine ⟨rfl,?_⟩
   rw [show splice 0 (List.take 2 (pxC q)) [AV.int .u32 0,.int .i64 0]=some [.int .u32 q.1,.int .i64 q.2] from rfl,yf]
   have sV:Store.sub U ((U.set p10 (.box [AV.int .u32 0,.int .i64 0])).set p10 (.box [.int .u32 q.1,.int .i64 q.2])):=za (Store.sub_set _ _ _ h10) h10
   have V10:=Store.set_same (U.set p10 (.box [AV.int .u32 0,.int .i64 0])) p10 (.box [AV.int .u32 q.1,.int .i64 q.2])
   generalize (U.set p10 (.box [AV.int .u32 0,.int .i64 0])).set p10 (.box [AV.int .u32 q.1,.int .i64 q.2])=V at sV V10 ⊢
   have V1:=sV _ _ U1
   have V5:=sV _ _ U5
   have Vg:=sV _ _ Ug
   have hrd:Rd 4 V (d.ps.map Peer.c) (.os g 4 0 d.ps.length):=by
    have:=Rd.os (esz:=4) Vg
    rwa [List.length_map] at this
   simp only [V1,V5,c7,t7,b13,t13,V10,↓vcPre,↓z0,↓reduceIte,vcPost,vcStd,Nat.reduceEqDiff,reduceCtorEq,Nat.reduceAdd,Nat.reduceLeDiff,Int.reduceLT,Int.reduceLE,↓u_setN]
   refine (s15 d hd ((k:Int) - 1) q b hb hrd).Q ?_
   rintro v V ⟨rfl,rfl⟩
   simp only [V5,V10,b13,t13,↓vcPre,↓z0,↓reduceIte,vcPost,vcStd,Nat.reduceEqDiff,reduceCtorEq,Nat.reduceAdd,Nat.reduceLeDiff,Int.reduceLT,Int.reduceLE,↓u_setN]
   refine (s15 (σ:=V) cfgZ (fun p hp=>by cases hp) ((k:Int) - 1) q b hb (lv := .nils) Rd.nils).Q ?_
   rintro v V ⟨rfl,rfl⟩
   simp only [ej,↓vcPre,↓z0,↓reduceIte,vcPost,vcStd,Nat.reduceEqDiff,reduceCtorEq,Nat.reduceAdd,Nat.reduceLeDiff,Int.reduceLT,Int.reduceLE,↓u_setN]
   exact NextQ.to (j+1) rfl sV (by omega) (by omega)
  ·rw [ek]
   exact NextQ.to (k+1) rfl sU (by omega) (by omega)
 ·exact hn _ _ hB
def PathR.cP (b:PathR) (v:AV):List AV := .int .i64 b.peer :: .int .u32 b.id :: .int .u32 b.addr :: .bool b.inr::[.int .i64 b.a.org,v,.int .u32 b.a.nxt,.bool b.a.hm,.int .u32 b.a.med,.bool b.a.hp,.int .u32 b.a.prf,.bool b.a.atm,.sl 1 (b.a.cms.map cU)]
theorem z30 {T:Store} {v0:AV} {L0:List Seg} (b:PathR) (k:Nat) (hk:k≤13) (Lg:List Int) (hLg:Lg.length=255) (hB:Store.sub B T) (h5:B p5=none) (T5:T p5=some (.box (b.cP v0))) (ho:Own 2 B (L0.map Seg.c) v0 T) (hL0:L0.length≤4) (hL0o:∀ s ∈ L0,s.ok) (E:List (Nat×AV))
 (hn:∀ (L:List Seg) (v:AV) E' s',Store.sub B s'→s' p5=some (.box (b.cP v))→Own 2 B (L.map Seg.c) v s'→L.length≤16→(∀ s ∈ L,s.ok)→n ((1,.ptr p1 0)::(2,.sl 1 (Lg.map cU))::(4,.int .i64 (k:Int))::(5,.ptr p5 0)::E') s') :
 bwp Tryz.prog Ts33.t3_7 ((1,.ptr p1 0)::(2,.sl 1 (Lg.map cU))::(4,.int .i64 (k:Int))::(5,.ptr p5 0)::E) T n rr xx:=by
 simp only [Ts33.t3_7]
 have b13:∀ v,(b.cP v).length=13:=fun _=>rfl
 have s5:∀ v w,splice 5 [w] (b.cP v)=some (b.cP w):=fun _ _=>rfl
 have f5:∀ v,List.take 1 (List.drop 5 (b.cP v))=[v]:=fun _=>rfl
 simp only [↓vcPre,↓z0,↓reduceIte,vcPost,vcStd,Nat.reduceEqDiff,reduceCtorEq,Nat.reduceAdd,Nat.reduceLeDiff,Int.reduceLT,Int.reduceLE,↓u_setN]
 refine LoopQ.inv (S:=Nat×AV×Store) (fun q=>[(1,.ptr p1 0),(2,.sl 1 (Lg.map cU)),(4,.int .i64 (k:Int)),(5,.ptr p5 0),(7,.int .i64 (q.1:Int))]) (fun q=>q.2.2)
  (fun q=>q.1≤12∧Store.sub B q.2.2∧q.2.2 p5=some (.box (b.cP q.2.1))∧∃ L:List Seg,Own 2 B (L.map Seg.c) q.2.1 q.2.2∧L.length≤q.1+4∧(∀ s ∈ L,s.ok)) (fun q=>13 - q.1) (0,v0,T) rfl (Store.sub_refl _) ⟨by simp,hB,T5,L0,ho,by simpa using hL0,hL0o⟩ ?_
 rintro ⟨i,v,s⟩ ⟨hi,hs,hp,L,hOw,hL,hLo⟩
 simp only at hi hs hp hOw hL
 have ei:IntKind.i64.wrap ((i:Int)+1)=((i+1:Nat):Int):=by rw [zd (by unfold I64;omega)];omega
 have tk:∀ x:Int,List.drop (Int.toNat 0) (List.take ((some (1:Int)).getD x).toNat (Lg.map cU))=(Lg.take 1).map cU:=fun x=>by rw [List.map_take];rfl
 have e1:alv (.mksl 2 1) [AV.agg [.int .i64 1,.sl 1 ((Lg.take 1).map cU)]]=some (.arr 2 [(⟨1,Lg.take 1⟩:Seg).c],fun id => .os id 2 0 1):=rfl
 simp only [↓vcPre,↓z0,↓reduceIte,vcPost,vcStd,Nat.reduceEqDiff,reduceCtorEq,Nat.reduceAdd,Nat.reduceLeDiff,Int.reduceLT,Int.reduceLE,↓u_setN]
 refine ⟨fun c1=>⟨fun c2 => ?_,fun c2 => ?_⟩,fun c1 => ?_⟩
 ·simp only [hp,b13,f5,tk,e1,↓vcPre,↓z0,↓reduceIte,vcPost,vcStd,Nat.reduceEqDiff,reduceCtorEq,Nat.reduceAdd,Nat.reduceLeDiff,Int.reduceLT,Int.reduceLE,↓u_setN]
  refine ⟨by simp [hLg],AllocQ.i0 fun q hq => ?_⟩
  simp only [↓vcPre,↓z0,↓reduceIte,vcPost,vcStd,Nat.reduceEqDiff,reduceCtorEq,Nat.reduceAdd,Nat.reduceLeDiff,Int.reduceLT,Int.reduceLE,↓u_setN]
  refine Own.appP (τ:=B) (Store.sub_trans hs (Store.sub_set s q _ hq)) (hOw.mono (Store.sub_set s q _ hq)) (zq (Store.set_same _ _ _) rfl) (by simp;omega) fun v1 s1 hs1 ho1 hk1 => ?_
  have m5:=hk1 _ _ (Store.sub_set s q _ hq _ _ hp) (fun M e=>by cases e)
  obtain ⟨hw1,hw2⟩:=ho1.cell
  simp only [m5,hw1,hw2,b13,s5,ei,↓vcPre,↓z0,↓reduceIte,vcPost,vcStd,Nat.reduceEqDiff,reduceCtorEq,Nat.reduceAdd,Nat.reduceLeDiff,Int.reduceLT,Int.reduceLE,↓u_setN]
  refine NextQ.to (i+1,v1,s1.set p5 (.box (b.cP v1))) rfl (Store.sub_refl _) (by simp only;omega) ⟨by simp only;omega,za hs1 h5,Store.set_same _ _ _,L++[⟨1,Lg.take 1⟩],?_,by simp;omega,?_⟩
  ·have:=ho1.setId (o' := .box (b.cP v1)) m5 (fun M e=>by cases e)
   rw [tk] at this
   rw [List.map_append]
   exact this
  ·intro x hx
   rcases List.mem_append.1 hx with h | h
   ·exact hLo x h
   ·have e:=List.mem_singleton.1 h
    subst e
    show (Lg.take 1).length≤_
    simp;omega
 ·exact hn L v _ s hs hp hOw (by omega) hLo
 ·exact hn L v _ s hs hp hOw (by omega) hLo
theorem z6e {T:Store} (b:PathR) (k:Nat) (hk:k≤13) (Lg:List Int) (hLg:Lg.length=255) (hB:Store.sub B T) (h5:B p5=none) (T5:T p5=some (.box b.c)) (E:List (Nat×AV))
 (hn:∀ (L:List Seg) (v:AV) E' s',Store.sub B s'→s' p5=some (.box (b.cP v))→Own 2 B (L.map Seg.c) v s'→L.length≤16→(∀ s ∈ L,s.ok)→n ((1,.ptr p1 0)::(2,.sl 1 (Lg.map cU))::(4,.int .i64 (k:Int))::(5,.ptr p5 0)::E') s') :
 bwp Tryz.prog Ts33.t3_36 ((1,.ptr p1 0)::(2,.sl 1 (Lg.map cU))::(4,.int .i64 (k:Int))::(5,.ptr p5 0)::E) T n rr xx:=by
 simp only [Ts33.t3_36]
 have b13:∀ v,(b.cP v).length=13:=fun _=>rfl
 have c13:b.c.length=13:=rfl
 have s5:∀ v w,splice 5 [w] (b.cP v)=some (b.cP w):=fun _ _=>rfl
 have z5:splice 5 [.nils] b.c=some (b.cP .nils):=rfl
 have f5:∀ v,List.take 1 (List.drop 5 (b.cP v))=[v]:=fun _=>rfl
 simp only [T5,c13,z5,↓vcPre,↓z0,↓reduceIte,vcPost,vcStd,Nat.reduceEqDiff,reduceCtorEq,Nat.reduceAdd,Nat.reduceLeDiff,Int.reduceLT,Int.reduceLE,↓u_setN]
 have sT0:Store.sub B (T.set p5 (.box (b.cP .nils))):=za hB h5
 have T05:=Store.set_same T p5 (.box (b.cP .nils))
 generalize T.set p5 (.box (b.cP .nils))=T0 at sT0 T05 ⊢
 refine LoopQ.inv (S:=Nat×AV×Store) (fun q=>[(1,.ptr p1 0),(2,.sl 1 (Lg.map cU)),(4,.int .i64 (k:Int)),(5,.ptr p5 0),(6,.int .i64 ((q.1+9:Nat):Int))]) (fun q=>q.2.2)
  (fun q=>q.1≤4∧Store.sub B q.2.2∧q.2.2 p5=some (.box (b.cP q.2.1))∧∃ L:List Seg,Own 2 B (L.map Seg.c) q.2.1 q.2.2∧L.length=q.1∧(∀ s ∈ L,s.ok)) (fun q=>5 - q.1) (0,.nils,T0) rfl (Store.sub_refl _) ⟨by simp,sT0,T05,[],.inl ⟨rfl,rfl⟩,rfl,fun s hs=>by cases hs⟩ ?_
 rintro ⟨i,v,s⟩ ⟨hi,hs,hp,L,ho,hL,hLo⟩
 simp only at hi hs hp ho hL
 have w2:IntKind.i64.wrap ((k:Int)+2)=(k:Int)+2:=zd (by unfold I64;omega)
 have ei:IntKind.i64.wrap (((i+9:Nat):Int)+1)=((i+1+9:Nat):Int):=by rw [zd (by unfold I64;omega)];omega
 have e2:alv (.mksl 2 1) [AV.agg [.int .i64 2,.sl 1 (Lg.map cU)]]=some (.arr 2 [(⟨2,Lg⟩:Seg).c],fun id => .os id 2 0 1):=rfl
 simp only [w2,↓vcPre,↓z0,↓reduceIte,vcPost,vcStd,Nat.reduceEqDiff,reduceCtorEq,Nat.reduceAdd,Nat.reduceLeDiff,Int.reduceLT,Int.reduceLE,↓u_setN]
 refine ⟨fun c1=>⟨fun c2 => ?_,fun c2 => ?_⟩,fun c1 => ?_⟩
 ·simp only [hp,b13,f5,e2,↓vcPre,↓z0,↓reduceIte,vcPost,vcStd,Nat.reduceEqDiff,reduceCtorEq,Nat.reduceAdd,Nat.reduceLeDiff,Int.reduceLT,Int.reduceLE,↓u_setN]
  refine AllocQ.i0 fun q hq => ?_
  simp only [↓vcPre,↓z0,↓reduceIte,vcPost,vcStd,Nat.reduceEqDiff,reduceCtorEq,Nat.reduceAdd,Nat.reduceLeDiff,Int.reduceLT,Int.reduceLE,↓u_setN]
  refine Own.appP (τ:=B) (Store.sub_trans hs (Store.sub_set s q _ hq)) (ho.mono (Store.sub_set s q _ hq)) (zq (Store.set_same _ _ _) rfl) (by simp;omega) fun v1 s1 hs1 ho1 hk1 => ?_
  have m5:=hk1 _ _ (Store.sub_set s q _ hq _ _ hp) (fun M e=>by cases e)
  obtain ⟨hw1,hw2⟩:=ho1.cell
  simp only [m5,hw1,hw2,b13,s5,ei,↓vcPre,↓z0,↓reduceIte,vcPost,vcStd,Nat.reduceEqDiff,reduceCtorEq,Nat.reduceAdd,Nat.reduceLeDiff,Int.reduceLT,Int.reduceLE,↓u_setN]
  refine NextQ.to (i+1,v1,s1.set p5 (.box (b.cP v1))) rfl (Store.sub_refl _) (by simp only;omega) ⟨by simp only;omega,za hs1 h5,Store.set_same _ _ _,L++[⟨2,Lg⟩],?_,by simp;omega,?_⟩
  ·have:=ho1.setId (o' := .box (b.cP v1)) m5 (fun M e=>by cases e)
   rw [List.map_append]
   exact this
  ·intro x hx
   rcases List.mem_append.1 hx with h | h
   ·exact hLo x h
   ·have e:=List.mem_singleton.1 h
    subst e
    show Lg.length≤_
    omega
 ·exact z30 b k hk Lg hLg hs h5 hp ho (by omega) hLo _ hn
 ·exact z30 b k hk Lg hLg hs h5 hp ho (by omega) hLo _ hn
end
end Go.Am
namespace Go.Am
open Go.Proofs Go.Sort
def g21:At:=⟨0,[],0,true,2,true,1,false,[]⟩
def b21:PathR:=⟨1,7,0,false,tameA g21 65001⟩
theorem zba:b21.a.ok:=(qf g21 65001 (by decide)).aok
section
variable {d:Cfg} {B:Store} {n rr:Env→Store→Prop} {xx:Nat→Env→Store→Prop} {p1 p5 g h:Nat} {v2 v4:AV}
set_option maxHeartbeats 2000000 in
set_option maxRecDepth 20000 in
theorem z86 {T:Store} (hd:∀ p ∈ d.ps,p.fit) (B1:B p1=some (.box (d.cV (.os g 4 0 d.ps.length)))) (Bg:B g=some (.arr 4 (d.ps.map Peer.c))) (Lg:List Int) (hLg:Lg.length=255) (hB:Store.sub B T) (hh:B h=none) (Th:T h=some (.arr 1 (Lg.map cU))) (E:List (Nat×AV))
 (hfin:∀ s',Store.sub B s'→rr [(0,.bool true)] s'):bwp Tryz.prog Ts33.t3_4 ((1,.ptr p1 0)::(2,.os h 1 0 255)::E) T n rr xx:=by
 simp only [Ts33.t3_4]
 have ho:Own 1 B (Lg.map cU) (.os h 1 0 255) T := .inr ⟨h,by rw [List.length_map,hLg],hh,Th⟩
 simp only [↓vcPre,↓z0,↓reduceIte,vcPost,vcStd,Nat.reduceEqDiff,reduceCtorEq,Nat.reduceAdd,Nat.reduceLeDiff,Int.reduceLT,Int.reduceLE,↓u_setN]
 refine WkQ.of (WeakE.own (τ:=B) 2 rfl ho hB fun s1 h1 h2 h3=>WeakE.pure ?_)
 simp only [↓vcPre,↓z0,↓reduceIte,vcPost,vcStd,Nat.reduceEqDiff,reduceCtorEq,Nat.reduceAdd,Nat.reduceLeDiff,Int.reduceLT,Int.reduceLE,↓u_setN]
 have s1p:=h1 _ _ B1
 have s1g:=h1 _ _ Bg
 refine LoopQ.inv (S:=Nat) (fun k=>[(1,.ptr p1 0),(2,.sl 1 (Lg.map cU)),(4,.int .i64 (k:Int))]) (fun _=>s1) (fun k=>k≤14) (fun k=>15 - k) 0 rfl (Store.sub_refl _) (by omega) ?_
 intro k hk
 simp only [↓vcPre,↓z0,↓reduceIte,vcPost,vcStd,Nat.reduceEqDiff,reduceCtorEq,Nat.reduceAdd,Nat.reduceLeDiff,Int.reduceLT,Int.reduceLE,↓u_setN]
 refine ⟨fun c1 => ?_,fun c1 => ?_⟩
 ·have ek:IntKind.i64.wrap ((k:Int)+1)=((k+1:Nat):Int):=by rw [zd (by unfold I64;omega)];omega
  have hg0:=c14 g21 (by unfold I64 g21;decide) 65001 s1
  have gimp:ImpL [AV.int .i64 0,.nils,.int .u32 0,.bool true,.int .u32 2,.bool true,.int .u32 1,.bool false,.nils] g21.c := .cons (.refl rfl) (.cons .nils (.cons (.refl rfl) (.cons (.refl rfl) (.cons (.refl rfl) (.cons (.refl rfl) (.cons (.refl rfl) (.cons (.refl rfl) (.cons .nils .nil))))))))
  refine (z17 gimp hg0).Q ?_
  rintro _ s1 ⟨rfl,rfl⟩
  have hbc:AV.int .i64 1 :: .int .u32 7 :: .int .u32 0 :: .bool false::(tameA g21 65001).c=b21.c:=rfl
  have e9:(tameA g21 65001).c.length=9:=rfl
  have t9:List.take 9 (tameA g21 65001).c=(tameA g21 65001).c:=rfl
  have z9:splice 0 (tameA g21 65001).c [AV.int .i64 0,.nils,.int .u32 0,.bool false,.int .u32 0,.bool false,.int .u32 0,.bool false,.nils]=some (tameA g21 65001).c:=rfl
  simp only [e9,t9,z9,hbc,↓vcPre,↓z0,↓reduceIte,vcPost,vcStd,Nat.reduceEqDiff,reduceCtorEq,Nat.reduceAdd,Nat.reduceLeDiff,Int.reduceLT,Int.reduceLE,↓u_setN]
  refine AllocQ.i0 fun p5 h5 => ?_
  have c13:b21.c.length=13:=rfl
  have z13:splice 0 b21.c (AV.int .i64 0 :: .int .u32 0 :: .int .u32 0 :: .bool false::[AV.int .i64 0,.nils,.int .u32 0,.bool false,.int .u32 0,.bool false,.int .u32 0,.bool false,.nils])=some b21.c:=rfl
  have w1:splice 3 [.bool true] b21.c=some ({ b21 with inr:=true }:PathR).c:=rfl
  have w4:splice 6 [.int .u32 0] b21.c=some ({ b21 with a:={ b21.a with nxt:=0 } }:PathR).c:=rfl
  have w5:splice 0 [.int .i64 0] b21.c=some ({ b21 with peer:=0 }:PathR).c:=rfl
  have w6:splice 0 [.int .i64 (-1)] b21.c=some ({ b21 with peer := -1 }:PathR).c:=rfl
  have w7:splice 9 [.bool false] b21.c=some ({ b21 with a:={ b21.a with hp:=false } }:PathR).c:=rfl
  have w7':splice 10 [.int .u32 0] ({ b21 with a:={ b21.a with hp:=false } }:PathR).c=some ({ b21 with a:={ b21.a with hp:=false,prf:=0 } }:PathR).c:=rfl
  have w8:splice 5 [.nils] b21.c=some (b21.cP .nils):=rfl
  have w2:∀ v,splice 12 [v] b21.c=some (b21.cO v):=fun _=>rfl
  have l7:({ b21 with a:={ b21.a with hp:=false } }:PathR).c.length=13:=rfl
  simp only [c13,z13,w1,w4,w5,w6,w7,w7',w8,l7,↓vcPre,↓z0,↓reduceIte,vcPost,vcStd,Nat.reduceEqDiff,reduceCtorEq,Nat.reduceAdd,Nat.reduceLeDiff,Int.reduceLT,Int.reduceLE,↓u_setN]
  have sX:Store.sub s1 ((s1.set p5 (.box [AV.int .i64 0,.int .u32 0,.int .u32 0,.bool false,.int .i64 0,.nils,.int .u32 0,.bool false,.int .u32 0,.bool false,.int .u32 0,.bool false,.nils])).set p5 (.box b21.c)):=za (Store.sub_set _ _ _ h5) h5
  have X5:=Store.set_same (s1.set p5 (.box [AV.int .i64 0,.int .u32 0,.int .u32 0,.bool false,.int .i64 0,.nils,.int .u32 0,.bool false,.int .u32 0,.bool false,.int .u32 0,.bool false,.nils])) p5 (.box b21.c)
  generalize (s1.set p5 (.box [AV.int .i64 0,.int .u32 0,.int .u32 0,.bool false,.int .i64 0,.nils,.int .u32 0,.bool false,.int .u32 0,.bool false,.int .u32 0,.bool false,.nils])).set p5 (.box b21.c)=X at sX X5 ⊢
  have hok:=zba
  have simple:=fun (b:PathR) (hb:b.a.ok) (nn rr:Env→Store→Prop) (xx:Nat→Env→Store→Prop) (E:List (Nat×AV)) hn=>uk (n:=nn) (rr:=rr) (xx:=xx) (p5:=p5) (T:=X.set p5 (.box b.c)) (v2 := .sl 1 (Lg.map cU)) (v4 := .int .i64 (k:Int)) hd s1p s1g E (WeakE.pure ⟨rfl,b,hb,Store.set_same _ _ _,za sX h5⟩) hn
  have frz:=fun (x:Int) (q:Nat) (hq:X q=none) (nn rr:Env→Store→Prop) (xx:Nat→Env→Store→Prop) (E:List (Nat×AV)) hn=>uk (n:=nn) (rr:=rr) (xx:=xx) (p5:=p5) (T:=(X.set q (.arr 1 [[.int .u32 x]])).set p5 (.box (b21.cO (.os q 1 0 1)))) (v2 := .sl 1 (Lg.map cU)) (v4 := .int .i64 (k:Int)) hd s1p s1g E
   (WeakE.frzCms (β:=b21) (L:=[x]) (Store.set_same _ _ _) ((Store.set_ne _ _ (fun e=>by subst e;rw [X5] at hq;cases hq)).trans (Store.set_same _ _ _)) fun Y hY hfr=>⟨rfl,{ b21 with a:={ b21.a with cms:=[x] } },⟨hok.1,hok.2.1,by show (1:Nat)≤_;omega⟩,hY,fun i o hi=>by
     have n5:¬ i=p5:=fun e=>by subst e;rw [h5] at hi;cases hi
     have nq:¬ i=q:=fun e=>by subst e;rw [sX _ _ hi] at hq;cases hq
     exact hfr _ _ n5 nq (by rw [Store.set_ne _ _ n5,Store.set_ne _ _ nq];exact sX _ _ hi)⟩) hn
  refine ⟨fun k1 => ?_,fun _=>⟨fun k2 => ?_,fun _=>⟨fun k3 => ?_,fun _=>⟨fun k4 => ?_,fun _=>⟨fun k5 => ?_,fun _=>⟨fun k6 => ?_,fun _=>⟨fun k7 => ?_,fun _=>⟨fun k8 => ?_,fun _ => ?_⟩⟩⟩⟩⟩⟩⟩⟩
  ·refine simple { b21 with inr:=true } hok _ _ _ _ fun E' s' hs' => ?_
   simp only [ek,↓vcPre,↓z0,↓reduceIte,vcPost,vcStd,Nat.reduceEqDiff,reduceCtorEq,Nat.reduceAdd,Nat.reduceLeDiff,Int.reduceLT,Int.reduceLE,↓u_setN]
   exact NextQ.to (k+1) rfl hs' (by omega) (by omega)
  ·refine AllocQ.i0 fun q hq => ?_
   have n5q:¬ p5=q:=fun e=>by subst e;rw [X5] at hq;cases hq
   simp only [n5q,X5,w2,c13,↓vcPre,↓z0,↓reduceIte,vcPost,vcStd,Nat.reduceEqDiff,reduceCtorEq,Nat.reduceAdd,Nat.reduceLeDiff,Int.reduceLT,Int.reduceLE,↓u_setN]
   refine frz _ q hq _ _ _ _ fun E' s' hs' => ?_
   simp only [ek,↓vcPre,↓z0,↓reduceIte,vcPost,vcStd,Nat.reduceEqDiff,reduceCtorEq,Nat.reduceAdd,Nat.reduceLeDiff,Int.reduceLT,Int.reduceLE,↓u_setN]
   exact NextQ.to (k+1) rfl hs' (by omega) (by omega)
  ·refine AllocQ.i0 fun q hq => ?_
   have n5q:¬ p5=q:=fun e=>by subst e;rw [X5] at hq;cases hq
   simp only [n5q,X5,w2,c13,↓vcPre,↓z0,↓reduceIte,vcPost,vcStd,Nat.reduceEqDiff,reduceCtorEq,Nat.reduceAdd,Nat.reduceLeDiff,Int.reduceLT,Int.reduceLE,↓u_setN]
   refine frz _ q hq _ _ _ _ fun E' s' hs' => ?_
   simp only [ek,↓vcPre,↓z0,↓reduceIte,vcPost,vcStd,Nat.reduceEqDiff,reduceCtorEq,Nat.reduceAdd,Nat.reduceLeDiff,Int.reduceLT,Int.reduceLE,↓u_setN]
   exact NextQ.to (k+1) rfl hs' (by omega) (by omega)
  ·refine simple { b21 with a:={ b21.a with nxt:=0 } } hok _ _ _ _ fun E' s' hs' => ?_
   simp only [ek,↓vcPre,↓z0,↓reduceIte,vcPost,vcStd,Nat.reduceEqDiff,reduceCtorEq,Nat.reduceAdd,Nat.reduceLeDiff,Int.reduceLT,Int.reduceLE,↓u_setN]
   exact NextQ.to (k+1) rfl hs' (by omega) (by omega)
  ·refine simple { b21 with peer:=0 } hok _ _ _ _ fun E' s' hs' => ?_
   simp only [ek,↓vcPre,↓z0,↓reduceIte,vcPost,vcStd,Nat.reduceEqDiff,reduceCtorEq,Nat.reduceAdd,Nat.reduceLeDiff,Int.reduceLT,Int.reduceLE,↓u_setN]
   exact NextQ.to (k+1) rfl hs' (by omega) (by omega)
  ·refine simple { b21 with peer := -1 } hok _ _ _ _ fun E' s' hs' => ?_
   simp only [ek,↓vcPre,↓z0,↓reduceIte,vcPost,vcStd,Nat.reduceEqDiff,reduceCtorEq,Nat.reduceAdd,Nat.reduceLeDiff,Int.reduceLT,Int.reduceLE,↓u_setN]
   exact NextQ.to (k+1) rfl hs' (by omega) (by omega)
  ·rw [Store.set_set]
   refine simple { b21 with a:={ b21.a with hp:=false,prf:=0 } } hok _ _ _ _ fun E' s' hs' => ?_
   simp only [ek,↓vcPre,↓z0,↓reduceIte,vcPost,vcStd,Nat.reduceEqDiff,reduceCtorEq,Nat.reduceAdd,Nat.reduceLeDiff,Int.reduceLT,Int.reduceLE,↓u_setN]
   exact NextQ.to (k+1) rfl hs' (by omega) (by omega)
  ·have imp:ImpL (b21.cP .nils) ({ b21 with a:={ b21.a with path:=[] } }:PathR).c := .cons (.refl rfl) (.cons (.refl rfl) (.cons (.refl rfl) (.cons (.refl rfl) (.cons (.refl rfl) (.cons .nils (.cons (.refl rfl) (.cons (.refl rfl) (.cons (.refl rfl) (.cons (.refl rfl) (.cons (.refl rfl) (.cons (.refl rfl) (.cons (.refl rfl) .nil))))))))))))
   refine uk hd s1p s1g _ (WeakE.boxImp p5 (Store.set_same _ _ _) imp (WeakE.pure ⟨rfl,{ b21 with a:={ b21.a with path:=[] } },⟨by show 0≤_;omega,(fun s hs=>by cases hs),hok.2.2⟩,Store.set_same _ _ _,za (za sX h5) h5⟩)) fun E' s' hs' => ?_
   simp only [ek,↓vcPre,↓z0,↓reduceIte,vcPost,vcStd,Nat.reduceEqDiff,reduceCtorEq,Nat.reduceAdd,Nat.reduceLeDiff,Int.reduceLT,Int.reduceLE,↓u_setN]
   exact NextQ.to (k+1) rfl hs' (by omega) (by omega)
  ·refine z6e b21 k (by omega) Lg hLg sX h5 X5 _ fun L v E' s' q1 q2 q3 q4 q5 => ?_
   refine uk hd s1p s1g _ (WeakE.ownBox (τ:=s1) p5 5 q2 rfl q3 q1 h5 fun σ' r1 r2 _=>WeakE.pure ⟨rfl,{ b21 with a:={ b21.a with path:=L } },⟨by show L.length≤_;omega,q5,hok.2.2⟩,r2,r1⟩) fun E'' s'' hs' => ?_
   simp only [ek,↓vcPre,↓z0,↓reduceIte,vcPost,vcStd,Nat.reduceEqDiff,reduceCtorEq,Nat.reduceAdd,Nat.reduceLeDiff,Int.reduceLT,Int.reduceLE,↓u_setN]
   exact NextQ.to (k+1) rfl hs' (by omega) (by omega)
 ·refine z58 _ (hfin _ h1)
end
def cfg4:Cfg:=⟨0,0,0,[⟨0,0,[],[]⟩,⟨1,0,[],[]⟩,⟨1,0,[],[]⟩,⟨0,0,[],[]⟩],0,0,0⟩
set_option maxHeartbeats 1000000 in
set_option maxRecDepth 20000 in
theorem zbs:Pur Tryz.prog 3 [] (.bool true):=by
 refine zn Ts33.F3 (by simp [Ts33.F3,Fn.mkW]) fun σ => ?_
 simp only [Ts33.F3,Fn.mkW,Ts33.b3]
 have e4:alv (.mksl 4 4) [AV.agg [.int .u32 0,.int .u32 0,.nils,.nils],.agg [.int .u32 1,.int .u32 0,.nils,.nils],.agg [.int .u32 1,.int .u32 0,.nils,.nils],.agg [.int .u32 0,.int .u32 0,.nils,.nils]]=some (.arr 4 [[.int .u32 0,.int .u32 0,.nils,.nils],[.int .u32 1,.int .u32 0,.nils,.nils],[.int .u32 1,.int .u32 0,.nils,.nils],[.int .u32 0,.int .u32 0,.nils,.nils]],fun id => .os id 4 0 4):=rfl
 simp only [e4,↓vcPre,↓z0,↓reduceIte,vcPost,vcStd,Nat.reduceEqDiff,reduceCtorEq,Nat.reduceAdd,Nat.reduceLeDiff,Int.reduceLT,Int.reduceLE,↓u_setN]
 refine AllocQ.i0 fun g hg => ?_
 simp only [↓vcPre,↓z0,↓reduceIte,vcPost,vcStd,Nat.reduceEqDiff,reduceCtorEq,Nat.reduceAdd,Nat.reduceLeDiff,Int.reduceLT,Int.reduceLE,↓u_setN]
 have hfit:cfg4.Ok:=⟨by unfold I64 cfg4;decide,by unfold I64 cfg4;decide,by unfold Small cfg4;decide,fun p hp=>by
  have:p.inn=[]∧p.out=[]:=by simp [cfg4] at hp;rcases hp with rfl | rfl | rfl <;> exact ⟨rfl,rfl⟩
  rw [this.1,this.2]
  exact ⟨by simp,by simp⟩,fun p hp=>by
  have:p.inn=[]∧p.out=[]:=by simp [cfg4] at hp;rcases hp with rfl | rfl | rfl <;> exact ⟨rfl,rfl⟩
  unfold Peer.fit
  rw [this.1,this.2]
  exact ⟨by simp,by simp⟩⟩
 have hcall:=zgh (σ:=(σ.set g (.arr 4 [[.int .u32 0,.int .u32 0,.nils,.nils],[.int .u32 1,.int .u32 0,.nils,.nils],[.int .u32 1,.int .u32 0,.nils,.nils],[.int .u32 0,.int .u32 0,.nils,.nils]])).set g (.arr 4 (cfg4.ps.map Peer.c))) cfg4 hfit (lv := .os g 4 0 4) (Rd.os (Store.set_same _ _ _))
 have imp:Rels ImpL [[AV.int .u32 0,.int .u32 0,.nils,.nils],[.int .u32 1,.int .u32 0,.nils,.nils],[.int .u32 1,.int .u32 0,.nils,.nils],[.int .u32 0,.int .u32 0,.nils,.nils]] (cfg4.ps.map Peer.c):=by
  have e:∀ x:Int,ImpL [AV.int .u32 x,.int .u32 0,.nils,.nils] (⟨x,0,[],[]⟩:Peer).c:=fun x => .cons (.refl rfl) (.cons (.refl rfl) (.cons .nils (.cons .nils .nil)))
  exact .cons (e 0) (.cons (e 1) (.cons (e 1) (.cons (e 0) .nil)))
 have hcall2:=ACalls.weakArgs (σ:=σ.set g (.arr 4 [[.int .u32 0,.int .u32 0,.nils,.nils],[.int .u32 1,.int .u32 0,.nils,.nils],[.int .u32 1,.int .u32 0,.nils,.nils],[.int .u32 0,.int .u32 0,.nils,.nils]])) hcall.1 (WeakL.arrImp g (Store.set_same _ _ _) imp (WeakL.pure hcall))
 have sU:Store.sub σ ((σ.set g (.arr 4 [[.int .u32 0,.int .u32 0,.nils,.nils],[.int .u32 1,.int .u32 0,.nils,.nils],[.int .u32 1,.int .u32 0,.nils,.nils],[.int .u32 0,.int .u32 0,.nils,.nils]])).set g (.arr 4 (cfg4.ps.map Peer.c))):=za (Store.sub_set _ _ _ hg) hg
 generalize (σ.set g (.arr 4 [[.int .u32 0,.int .u32 0,.nils,.nils],[.int .u32 1,.int .u32 0,.nils,.nils],[.int .u32 1,.int .u32 0,.nils,.nils],[.int .u32 0,.int .u32 0,.nils,.nils]])).set g (.arr 4 (cfg4.ps.map Peer.c))=U at *
 clear hcall
 refine hcall2.Q ?_
 rintro r T ⟨h,rfl,q1,q2,q3⟩
 have hK:=qx cfg4
 have sT:=Store.sub_trans sU q1
 have c7:∀ v,((configK cfg4).cV v).length=7:=fun _=>rfl
 have zK:∀ v,splice 0 ((configK cfg4).cV v) [AV.int .u32 0,.int .u32 0,.int .i64 0,.nils,.int .i64 0,.int .i64 0,.int .i64 0]=some ((configK cfg4).cV v):=fun _=>rfl
 simp only [↓vcPre,↓z0,↓reduceIte,vcPost,vcStd,Nat.reduceEqDiff,reduceCtorEq,Nat.reduceAdd,Nat.reduceLeDiff,Int.reduceLT,Int.reduceLE,↓u_setN]
 refine AllocQ.i0 fun p1 h1 => ?_
 simp only [c7,zK,↓vcPre,↓z0,↓reduceIte,vcPost,vcStd,Nat.reduceEqDiff,reduceCtorEq,Nat.reduceAdd,Nat.reduceLeDiff,Int.reduceLT,Int.reduceLE,↓u_setN]
 have V1:=Store.set_same (T.set p1 (.box [AV.int .u32 0,.int .u32 0,.int .i64 0,.nils,.int .i64 0,.int .i64 0,.int .i64 0])) p1 (.box ((configK cfg4).cV (.os h 4 0 (configK cfg4).ps.length)))
 have sV:Store.sub T ((T.set p1 (.box [AV.int .u32 0,.int .u32 0,.int .i64 0,.nils,.int .i64 0,.int .i64 0,.int .i64 0])).set p1 (.box ((configK cfg4).cV (.os h 4 0 (configK cfg4).ps.length)))):=za (Store.sub_set _ _ _ h1) h1
 generalize (T.set p1 (.box [AV.int .u32 0,.int .u32 0,.int .i64 0,.nils,.int .i64 0,.int .i64 0,.int .i64 0])).set p1 (.box ((configK cfg4).cV (.os h 4 0 (configK cfg4).ps.length)))=V at sV V1 ⊢
 have Vh:=sV _ _ q3
 have sσV:=Store.sub_trans sT sV
 refine ⟨by decide,AllocQ.i0 fun l hl => ?_⟩
 simp only [↓vcPre,↓z0,↓reduceIte,vcPost,vcStd,Nat.reduceEqDiff,reduceCtorEq,Nat.reduceAdd,Nat.reduceLeDiff,Int.reduceLT,Int.reduceLE,↓u_setN]
 have n1l:¬ p1=l:=fun e=>by subst e;rw [V1] at hl;cases hl
 have nhl:¬ h=l:=fun e=>by subst e;rw [Vh] at hl;cases hl
 have hσl:=zm sσV hl
 refine LoopQ.inv (S:=Nat×List Int) (fun q=>[(1,.ptr p1 0),(2,.os l 1 0 255),(3,.int .i64 (q.1:Int))]) (fun q=>V.set l (.arr 1 (q.2.map cU))) (fun q=>q.1≤255∧q.2.length=255) (fun q=>256 - q.1) (0,List.replicate 255 0) rfl (by
  show Store.sub _ (V.set l (.arr 1 ((List.replicate 255 (0:Int)).map cU)))
  rw [List.map_replicate]
  exact Store.sub_refl _) ⟨by simp,by simp⟩ ?_
 rintro ⟨k,L⟩ ⟨hk,hL⟩
 simp only at hk hL
 simp only [↓vcPre,↓z0,↓reduceIte,vcPost,vcStd,Nat.reduceEqDiff,reduceCtorEq,Nat.reduceAdd,Nat.reduceLeDiff,Int.reduceLT,Int.reduceLE,↓u_setN]
 refine ⟨fun c1=>⟨by omega,by simp [hL];omega,?_⟩,fun c1 => ?_⟩
 ·have ek:IntKind.i64.wrap ((k:Int)+1)=((k+1:Nat):Int):=by rw [zd (by unfold I64;omega)];omega
  have hspl:∀ z:Int,splice 0 [AV.int .u32 (IntKind.u32.wrap (k:Int))] (cU z)=some (cU (IntKind.u32.wrap (k:Int))):=fun _=>rfl
  rw [hspl,yf,ek]
  refine NextQ.to (k+1,L.set k (IntKind.u32.wrap (k:Int))) rfl ?_ (by simp only;omega) ⟨by simp only;omega,by simp only [List.length_set];exact hL⟩
  show Store.sub (V.set l (.arr 1 ((L.set k (IntKind.u32.wrap (k:Int))).map cU))) _
  rw [Store.set_set,Nat.zero_add,List.map_set]
  exact Store.sub_refl _
 ·exact z86 hK.fit V1 Vh L hL (Store.sub_set _ _ _ hl) hl (Store.set_same _ _ _) _ (fun s' hs'=>⟨rfl,Store.sub_trans sσV hs'⟩)
end Go.Am
