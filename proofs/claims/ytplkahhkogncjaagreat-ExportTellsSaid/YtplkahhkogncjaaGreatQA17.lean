/- A part of the proof: a logic for calls over plain values, and the functions that the law reaches, each walked once. -/
import Derived.Test.YtplkahhkogncjaaGreatQA16
set_option linter.unusedVariables false
set_option linter.unusedSimpArgs false
set_option linter.unusedSectionVars false
namespace Go.Am
open Go.Proofs Go.Sort
theorem z5w (xs:List AV) (h:TOk Tryz.prog 4 27 xs):∃ rs:List Rule,ImpL xs [.sl 12 (rs.map Rule.c)]∧(∀ r ∈ rs,r.ok)∧rs.length≤4611686018427387903:=by
 obtain ⟨rs,hi,z,ho⟩:=TOk.slI (sz:=12) (by_:=72) Tryz.underlying27 (by kernel_rfl) (by kernel_rfl) Rule.c Rule.ok zdv h
 exact ⟨rs,hi,ho,by have:=z2x (by omega) z;unfold Small at this;omega⟩
theorem zdu (xs:List AV) (h:TOk Tryz.prog 5 29 xs):∃ p:Peer,ImpL xs p.c∧(((∀ r ∈ p.inn,r.ok)∧(∀ r ∈ p.out,r.ok))∧p.fit):=by
 obtain ⟨a1,b1,rfl,h1,a2,b2,rfl,h2,a3,b3,rfl,h3,a4,b4,rfl,h4,rfl⟩:=TOk.struct (ts:=[22,22,27,27]) Tryz.underlying29 rfl h
 obtain ⟨m1,rfl,_,_⟩:=TOk.int Tryz.underlying22 h1
 obtain ⟨m2,rfl,_,_⟩:=TOk.int Tryz.underlying22 h2
 obtain ⟨r3,i3,o3,f3⟩:=z5w _ h3
 obtain ⟨r4,i4,o4,f4⟩:=z5w _ h4
 exact ⟨⟨m1,m2,r3,r4⟩,(ImpL.one rfl).append ((ImpL.one rfl).append (i3.append (i4.append .nil))),⟨o3,o4⟩,f3,f4⟩
theorem zgg (xs:List AV) (h:TOk Tryz.prog 7 25 xs):∃ c:Cfg,ImpL xs (c.cV (.sl 4 (c.ps.map Peer.c)))∧c.Ok:=by
 obtain ⟨a1,b1,rfl,h1,a2,b2,rfl,h2,a3,b3,rfl,h3,a4,b4,rfl,h4,a5,b5,rfl,h5,a6,b6,rfl,h6,a7,b7,rfl,h7,rfl⟩:=TOk.struct (ts:=[22,22,3,23,3,3,3]) Tryz.underlying25 rfl h
 obtain ⟨m1,rfl,_,_⟩:=TOk.int Tryz.underlying22 h1
 obtain ⟨m2,rfl,_,_⟩:=TOk.int Tryz.underlying22 h2
 obtain ⟨m3,rfl,_,_⟩:=TOk.int Tryz.underlying3 h3
 obtain ⟨ps,i4,z4,o4⟩:=TOk.slI (sz:=4) (by_:=56) Tryz.underlying23 (by kernel_rfl) (by kernel_rfl) Peer.c (fun p=>((∀ r ∈ p.inn,r.ok)∧(∀ r ∈ p.out,r.ok))∧p.fit) zdu h4
 obtain ⟨m5,rfl,w1,w2⟩:=TOk.int Tryz.underlying3 h5
 obtain ⟨m6,rfl,d1,d2⟩:=TOk.int Tryz.underlying3 h6
 obtain ⟨m7,rfl,_,_⟩:=TOk.int Tryz.underlying3 h7
 exact ⟨⟨m1,m2,m3,ps,m5,m6,m7⟩,(ImpL.one rfl).append ((ImpL.one rfl).append ((ImpL.one rfl).append (i4.append ((ImpL.one rfl).append ((ImpL.one rfl).append ((ImpL.one rfl).append .nil)))))),⟨w1,w2⟩,⟨d1,d2⟩,z2x (by omega) z4,fun p hp=>(o4 p hp).1,fun p hp=>(o4 p hp).2⟩
theorem zhf {w:World} {a:List AV} {v:Array Value} (hr:VRel (G0 w) w (.agg a) (.agg v)) (h:TOk Tryz.prog 7 25 a):∃ c:Cfg,VRel (G0 w) w (.agg (c.cV (.sl 4 (c.ps.map Peer.c)))) (.agg v)∧c.Ok:=by
 obtain ⟨r,hi,ho⟩:=zgg _ h
 exact ⟨r,z44 hi hr,ho⟩
def pfC (q:Int×Int):List AV:=[.int .u32 q.1,.int .i64 q.2]
theorem zhe {w:World} {a:List AV} {v:Array Value} (hr:VRel (G0 w) w (.agg a) (.agg v)) (h:TOk Tryz.prog 2 40 a):∃ q:Int×Int,VRel (G0 w) w (.agg (pfC q)) (.agg v)∧I64 q.2:=by
 obtain ⟨p1,q1,rfl,g1,p2,q2,rfl,g2,rfl⟩:=TOk.struct (ts:=[22,3]) Tryz.underlying40 rfl h
 obtain ⟨m1,rfl,_,_⟩:=TOk.int Tryz.underlying22 g1
 obtain ⟨m2,rfl,l1,l2⟩:=TOk.int Tryz.underlying3 g2
 exact ⟨(m1,m2),hr,⟨l1,l2⟩⟩
theorem zhd {w:World} {a:List AV} {v:Array Value} (hr:VRel (G0 w) w (.agg a) (.agg v)) (h:TOk Tryz.prog 6 36 a):∃ b:PathR,VRel (G0 w) w (.agg b.c) (.agg v)∧(I64 b.peer∧I64 b.a.org∧okNums b.a):=by
 obtain ⟨a1,b1,rfl,h1,a2,b2,rfl,h2,a3,b3,rfl,h3,a4,b4,rfl,h4,a5,b5,rfl,h5,rfl⟩:=TOk.struct (ts:=[3,22,22,4,33]) Tryz.underlying36 rfl h
 obtain ⟨m1,rfl,w1,w2⟩:=TOk.int Tryz.underlying3 h1
 obtain ⟨m2,rfl,_,_⟩:=TOk.int Tryz.underlying22 h2
 obtain ⟨m3,rfl,_,_⟩:=TOk.int Tryz.underlying22 h3
 obtain ⟨m4,rfl⟩:=TOk.bool Tryz.underlying4 h4
 obtain ⟨m5,i5,o5⟩:=dAt _ h5
 refine ⟨⟨m1,m2,m3,m4,m5⟩,z44 ?_ hr,⟨w1,w2⟩,o5⟩
 have:=(ImpL.one (x:=AV.int .i64 m1) rfl).append ((ImpL.one (x:=AV.int .u32 m2) rfl).append ((ImpL.one (x:=AV.int .u32 m3) rfl).append ((ImpL.one (x:=AV.bool m4) rfl).append (i5.append .nil))))
 simpa [PathR.c] using this
end Go.Am
namespace Go.Am.Ts31
open Go.Proofs Go.Am.B
def t42_118:BC := .seq (z [⟨some 118,none,.load (.ld 9 true),[.t 11]⟩,g 119 81 [.t 118],u 120 .not 119,m 121 120,⟨some 122,some (121,false),.load (.ld 9 true),[.t 11]⟩,⟨some 123,some (121,false),.loud (.call 87),[.t 122]⟩,⟨some 124,some (121,false),.pure (.len),[.t 123]⟩,⟨some 125,some (121,false),.pure (.bin .gtr),[.t 124,.c (.int .i64 4068)]⟩,⟨some 126,none,.pick,[.t 121,.c (.bool true),.t 125]⟩] [8,11,126] (.cond (.t 126) (z [p 127 (.build [(.int .i64 0),.nils,(.int .u32 0),(.bool false),(.int .u32 0),(.bool false),(.int .u32 0),(.bool false),.nils] []) [],s 9 8 127,k 9 (.bool false)] [8,9] .ret) .skip)) (z [⟨some 128,none,.load (.ld 9 true),[.t 11]⟩,s 9 8 128,k 9 (.bool true)] [8,9] .ret)
def t42_98:BC:=z [f 98 3 4,m 100 1,f 104 0 4,l 99 1 98,x 101 4 99 100,f 102 3 101,l 103 1 102,l 105 1 104,⟨some 106,none,.load (.ld 2 true),[.t 6]⟩,⟨some 107,none,.load (.ld 9 true),[.t 11]⟩,g 108 86 [.t 103,.t 105,.t 106,.t 107],m 97 108,e 109 0 97,e 110 1 97,s 9 11 109,m 12 110] [8,10,11,12] (.seq (z [m 111 12,u 112 .not 111] [8,10,11,112] (.cond (.t 112) (z [p 113 (.build [(.int .i64 0),.nils,(.int .u32 0),(.bool false),(.int .u32 0),(.bool false),(.int .u32 0),(.bool false),.nils] []) [],s 9 8 113,k 9 (.bool false)] [8,9] .ret) .skip)) (.seq (z [m 114 10,u 115 .not 114] [8,11,115] (.cond (.t 115) (.ops [f 116 5 11,⟨none,none,.loud (.st 1),[.t 116,.c (.bool false)]⟩,f 117 6 11,⟨none,none,.loud (.st 1),[.t 117,.c (.int .u32 0)]⟩] [8,11]) .skip)) t42_118))
def t42_76:BC:=z [f 76 4 7,⟨some 77,none,.load (.ld 9 true),[.t 76]⟩,g 78 83 [.t 77],⟨some 11,none,.alloc (.alloc [(.int .i64 0),.nils,(.int .u32 0),(.bool false),(.int .u32 0),(.bool false),(.int .u32 0),(.bool false),.nils]),[]⟩,s 9 11 78] [1,4,6,8,10,11] (.seq (z [m 79 10] [1,4,6,8,10,11,79] (.cond (.t 79) (z [⟨some 80,none,.load (.ld 9 true),[.t 11]⟩,g 81 84 [.t 80],f 82 6 11,s 1 82 81] [1,4,6,8,10,11] (.ops [f 83 5 11,⟨none,none,.loud (.st 1),[.t 83,.c (.bool true)]⟩] [1,4,6,8,10,11])) (z [f 84 1 11,l 85 1 84,f 86 0 4,l 87 1 86,g 88 85 [.t 85,.t 87,.c (.int .i64 1)],f 89 1 11,s 1 89 88] [1,4,6,8,10,11] (z [f 90 1 4,l 91 1 90,f 92 2 11,s 1 92 91] [1,4,6,8,10,11] (.ops [f 93 3 11,⟨none,none,.loud (.st 1),[.t 93,.c (.bool false)]⟩,f 94 4 11,⟨none,none,.loud (.st 1),[.t 94,.c (.int .u32 0)]⟩,f 95 5 11,⟨none,none,.loud (.st 1),[.t 95,.c (.bool false)]⟩,f 96 6 11,⟨none,none,.loud (.st 1),[.t 96,.c (.int .u32 0)]⟩] [1,4,6,8,10,11]))))) t42_98)
def b42:BC:=z [⟨some 4,none,.alloc (.box),[.t 0]⟩,⟨some 6,none,.alloc (.box),[.t 2]⟩,⟨some 7,none,.alloc (.box),[.t 3]⟩,⟨some 8,none,.alloc (.alloc [(.int .i64 0),.nils,(.int .u32 0),(.bool false),(.int .u32 0),(.bool false),(.int .u32 0),(.bool false),.nils]),[]⟩,k 9 (.bool false)] [1,4,6,7,8] (.seq (z [⟨some 13,none,.load (.ld 7 true),[.t 4]⟩,g 14 79 [.t 13],c 15 .neq 14 0,m 16 15,⟨some 17,some (16,false),.pure (.mov),[.t 1]⟩,⟨some 18,some (16,false),.pure (.bin .lss),[.t 17,.c (.int .i64 0)]⟩,⟨some 19,none,.pick,[.t 16,.c (.bool true),.t 18]⟩,m 20 19,⟨some 21,some (20,false),.pure (.mov),[.t 1]⟩,⟨some 22,some (20,false),.pure (.fld 3),[.t 4]⟩,⟨some 23,some (20,false),.load (.ld 1 false),[.t 22]⟩,⟨some 24,some (20,false),.pure (.len),[.t 23]⟩,⟨some 25,some (20,false),.pure (.bin .geq),[.t 21,.t 24]⟩,⟨some 26,none,.pick,[.t 20,.c (.bool true),.t 25]⟩,m 27 26,⟨some 28,some (27,false),.load (.ld 2 true),[.t 6]⟩,⟨some 29,some (27,false),.loud (.call 80),[.t 28]⟩,⟨some 30,some (27,false),.pure (.not),[.t 29]⟩,⟨some 31,none,.pick,[.t 27,.c (.bool true),.t 30]⟩,m 32 31,⟨some 33,some (32,false),.pure (.fld 4),[.t 7]⟩,⟨some 34,some (32,false),.load (.ld 9 true),[.t 33]⟩,⟨some 35,some (32,false),.loud (.call 81),[.t 34]⟩,⟨some 36,some (32,false),.pure (.not),[.t 35]⟩,⟨some 37,none,.pick,[.t 32,.c (.bool true),.t 36]⟩,m 38 37,⟨some 39,some (38,false),.pure (.fld 0),[.t 7]⟩,⟨some 40,some (38,false),.load (.ld 1 false),[.t 39]⟩,⟨some 41,some (38,false),.pure (.mov),[.t 1]⟩,⟨some 42,some (38,false),.pure (.bin .eql),[.t 40,.t 41]⟩,⟨some 43,none,.pick,[.t 38,.c (.bool true),.t 42]⟩] [1,4,6,7,8,43] (.cond (.t 43) (z [p 44 (.build [(.int .i64 0),.nils,(.int .u32 0),(.bool false),(.int .u32 0),(.bool false),(.int .u32 0),(.bool false),.nils] []) [],s 9 8 44,k 9 (.bool false)] [8,9] .ret) .skip)) (z [f 45 3 4,m 47 1,f 51 0 4,l 46 1 45,x 48 4 46 47,f 49 0 48,l 50 1 49,l 52 1 51,b 53 .eql 50 52,m 10 53] [1,4,6,7,8,10] (.seq (z [f 54 3 7,l 55 1 54,m 56 55,⟨some 57,some (56,true),.pure (.mov),[.t 10]⟩,⟨some 58,none,.pick,[.t 56,.t 57,.c (.bool false)]⟩,m 59 58,⟨some 60,some (59,false),.pure (.fld 4),[.t 7]⟩,⟨some 61,some (59,false),.pure (.fld 8),[.t 60]⟩,⟨some 62,some (59,false),.load (.ld 1 false),[.t 61]⟩,⟨some 63,some (59,false),.loud (.call 82),[.t 62,.c (.int .u32 4294967042)]⟩,⟨some 64,none,.pick,[.t 59,.c (.bool true),.t 63]⟩,m 65 64,⟨some 66,some (65,false),.pure (.fld 4),[.t 7]⟩,⟨some 67,some (65,false),.pure (.fld 8),[.t 66]⟩,⟨some 68,some (65,false),.load (.ld 1 false),[.t 67]⟩,⟨some 69,some (65,false),.loud (.call 82),[.t 68,.c (.int .u32 4294967041)]⟩,⟨some 70,some (65,false),.pure (.mov),[.t 69]⟩,⟨some 71,some (70,true),.pure (.mov),[.t 10]⟩,⟨some 72,some (70,true),.pure (.not),[.t 71]⟩,⟨some 73,some (65,false),.pick,[.t 70,.t 72,.c (.bool false)]⟩,⟨some 74,none,.pick,[.t 65,.c (.bool true),.t 73]⟩] [1,4,6,7,8,10,74] (.cond (.t 74) (z [p 75 (.build [(.int .i64 0),.nils,(.int .u32 0),(.bool false),(.int .u32 0),(.bool false),(.int .u32 0),(.bool false),.nils] []) [],s 9 8 75,k 9 (.bool false)] [8,9] .ret) .skip)) t42_76)))
def F42:Fn Tryz.prog 42:=Fn.mkX false b42 [.c 8 9 true,.t 9] 129 Tryz.f42 _ Tryz.func42 (by decide) rfl Tryz.ntmps42 (by kernel_rfl) (by kernel_rfl)
def t79_101:BC:=z [f 101 0 4,l 102 1 101,p 103 (.bin .lss) [.t 102,.c (.int .u32 1)],m 104 103,⟨some 105,some (104,false),.pure (.fld 0),[.t 4]⟩,⟨some 106,some (104,false),.load (.ld 1 false),[.t 105]⟩,⟨some 107,some (104,false),.pure (.bin .gtr),[.t 106,.c (.int .u32 65535)]⟩,⟨some 108,none,.pick,[.t 104,.c (.bool true),.t 107]⟩,m 109 108,⟨some 110,some (109,false),.pure (.fld 1),[.t 4]⟩,⟨some 111,some (109,false),.load (.ld 1 false),[.t 110]⟩,⟨some 112,some (109,false),.loud (.call 143),[.t 111]⟩,⟨some 113,some (109,false),.pure (.not),[.t 112]⟩,⟨some 114,none,.pick,[.t 109,.c (.bool true),.t 113]⟩,m 115 114,⟨some 116,some (115,false),.pure (.fld 2),[.t 4]⟩,⟨some 117,some (115,false),.load (.ld 1 false),[.t 116]⟩,⟨some 118,some (115,false),.loud (.call 144),[.t 117]⟩,⟨some 119,some (115,false),.pure (.not),[.t 118]⟩,⟨some 120,none,.pick,[.t 115,.c (.bool true),.t 119]⟩,m 121 120,⟨some 122,some (121,false),.pure (.fld 3),[.t 4]⟩,⟨some 123,some (121,false),.load (.ld 1 false),[.t 122]⟩,⟨some 124,some (121,false),.loud (.call 144),[.t 123]⟩,⟨some 125,some (121,false),.pure (.not),[.t 124]⟩,⟨some 126,none,.pick,[.t 121,.c (.bool true),.t 125]⟩] [1,3,126] (.cond (.t 126) (z [j 2 24] [2] .ret) .skip)
def t79_3:BC := .seq (z [j 3 0] [1,3] (.block 0 (.loop [1,3] (.seq (z [m 75 3,f 76 3 1,l 77 1 76,u 78 .len 77,b 79 .lss 75 78] [1,3,79] (.cond (.t 79) .skip (.exit 0))) (.seq (.block 1 (z [f 82 3 1,l 83 1 82,m 84 3,x 85 4 83 84,⟨some 86,none,.load (.ld 4 true),[.t 85]⟩,⟨some 4,none,.alloc (.alloc [(.int .u32 0),(.int .u32 0),.nils,.nils]),[]⟩,s 4 4 86] [1,3,4] (.seq (z [j 5 0] [1,3,4,5] (.block 2 (.loop [1,3,4,5] (.seq (z [m 87 5,m 88 3,b 89 .lss 87 88] [1,3,4,5,89] (.cond (.t 89) .skip (.exit 2))) (.seq (.block 3 (z [f 92 3 1,m 94 5,f 98 1 4,l 93 1 92,x 95 4 93 94,f 96 1 95,l 97 1 96,l 99 1 98,b 100 .eql 97 99] [1,3,4,5,100] (.cond (.t 100) (z [j 2 24] [2] .ret) .skip))) (.ops [m 90 5,c 91 .add 90 1,m 5 91] [1,3,4,5])))))) t79_101))) (.ops [m 80 3,c 81 .add 80 1,m 3 81] [1,3])))))) (z [j 2 0] [2] .ret)
def b79:BC:=z [⟨some 1,none,.alloc (.box),[.t 0]⟩,j 2 0] [1] (.seq (z [f 6 0 1,l 7 1 6,p 8 (.bin .lss) [.t 7,.c (.int .u32 1)],m 9 8,⟨some 10,some (9,false),.pure (.fld 0),[.t 1]⟩,⟨some 11,some (9,false),.load (.ld 1 false),[.t 10]⟩,⟨some 12,some (9,false),.pure (.bin .gtr),[.t 11,.c (.int .u32 65535)]⟩,⟨some 13,none,.pick,[.t 9,.c (.bool true),.t 12]⟩,m 14 13,⟨some 15,some (14,false),.pure (.fld 1),[.t 1]⟩,⟨some 16,some (14,false),.load (.ld 1 false),[.t 15]⟩,⟨some 17,some (14,false),.loud (.call 143),[.t 16]⟩,⟨some 18,some (14,false),.pure (.not),[.t 17]⟩,⟨some 19,none,.pick,[.t 14,.c (.bool true),.t 18]⟩,m 20 19,⟨some 21,some (20,false),.pure (.fld 2),[.t 1]⟩,⟨some 22,some (20,false),.load (.ld 1 false),[.t 21]⟩,⟨some 23,some (20,false),.pure (.bin .neq),[.t 22,.c (.int .i64 0)]⟩,⟨some 24,some (20,false),.pure (.mov),[.t 23]⟩,⟨some 25,some (24,true),.pure (.fld 2),[.t 1]⟩,⟨some 26,some (24,true),.load (.ld 1 false),[.t 25]⟩,⟨some 27,some (24,true),.pure (.bin .lss),[.t 26,.c (.int .i64 3)]⟩,⟨some 28,some (24,true),.pure (.mov),[.t 27]⟩,⟨some 29,some (28,false),.pure (.fld 2),[.t 1]⟩,⟨some 30,some (28,false),.load (.ld 1 false),[.t 29]⟩,⟨some 31,some (28,false),.pure (.bin .gtr),[.t 30,.c (.int .i64 65535)]⟩,⟨some 32,some (24,true),.pick,[.t 28,.c (.bool true),.t 31]⟩,⟨some 33,some (20,false),.pick,[.t 24,.t 32,.c (.bool false)]⟩,⟨some 34,none,.pick,[.t 20,.c (.bool true),.t 33]⟩,m 35 34,⟨some 36,some (35,false),.pure (.fld 4),[.t 1]⟩,⟨some 37,some (35,false),.load (.ld 1 false),[.t 36]⟩,⟨some 38,some (35,false),.pure (.bin .lss),[.t 37,.c (.int .i64 1)]⟩,⟨some 39,none,.pick,[.t 35,.c (.bool true),.t 38]⟩,m 40 39,⟨some 41,some (40,false),.pure (.fld 4),[.t 1]⟩,⟨some 42,some (40,false),.load (.ld 1 false),[.t 41]⟩,⟨some 43,some (40,false),.pure (.bin .gtr),[.t 42,.c (.int .i64 8)]⟩,⟨some 44,none,.pick,[.t 40,.c (.bool true),.t 43]⟩,m 45 44,⟨some 46,some (45,false),.pure (.fld 5),[.t 1]⟩,⟨some 47,some (45,false),.load (.ld 1 false),[.t 46]⟩,⟨some 48,some (45,false),.pure (.bin .lss),[.t 47,.c (.int .i64 1)]⟩,⟨some 49,none,.pick,[.t 45,.c (.bool true),.t 48]⟩,m 50 49,⟨some 51,some (50,false),.pure (.fld 5),[.t 1]⟩,⟨some 52,some (50,false),.load (.ld 1 false),[.t 51]⟩,⟨some 53,some (50,false),.pure (.bin .gtr),[.t 52,.c (.int .i64 8)]⟩,⟨some 54,none,.pick,[.t 50,.c (.bool true),.t 53]⟩,m 55 54,⟨some 56,some (55,false),.pure (.fld 6),[.t 1]⟩,⟨some 57,some (55,false),.load (.ld 1 false),[.t 56]⟩,⟨some 58,some (55,false),.pure (.bin .lss),[.t 57,.c (.int .i64 0)]⟩,⟨some 59,none,.pick,[.t 55,.c (.bool true),.t 58]⟩,m 60 59,⟨some 61,some (60,false),.pure (.fld 6),[.t 1]⟩,⟨some 62,some (60,false),.load (.ld 1 false),[.t 61]⟩,⟨some 63,some (60,false),.pure (.bin .gtr),[.t 62,.c (.int .i64 4096)]⟩,⟨some 64,none,.pick,[.t 60,.c (.bool true),.t 63]⟩] [1,64] (.cond (.t 64) (z [j 2 1] [2] .ret) .skip)) (.seq (z [f 65 3 1,l 66 1 65,u 67 .len 66,c 68 .lss 67 1,m 69 68,⟨some 70,some (69,false),.pure (.fld 3),[.t 1]⟩,⟨some 71,some (69,false),.load (.ld 1 false),[.t 70]⟩,⟨some 72,some (69,false),.pure (.len),[.t 71]⟩,⟨some 73,some (69,false),.pure (.bin .gtr),[.t 72,.c (.int .i64 4)]⟩,⟨some 74,none,.pick,[.t 69,.c (.bool true),.t 73]⟩] [1,74] (.cond (.t 74) (z [j 2 4] [2] .ret) .skip)) t79_3))
def F79:Fn Tryz.prog 79:=Fn.mkX false b79 [.t 2] 127 Tryz.f79 _ Tryz.func79 (by decide) rfl Tryz.ntmps79 (by kernel_rfl) (by kernel_rfl)
end Go.Am.Ts31
namespace Go.Am
open Go.Proofs Go.Sort
theorem c82 (L:List Int) (hl:L.length≤1000000) (n:Int):Pur Tryz.prog 82 [.sl 1 (L.map cU),.int .u32 n] (.bool (decide (n ∈ L))):=by
 refine zo Tst.F82 (by simp [Tst.F82,Fn.mkX]) fun σ => ?_
 simp only [Tst.F82,Fn.mkX,Tst.b82]
 simp only [↓vcPre,↓z0,↓reduceIte,vcPost,vcStd,Nat.reduceEqDiff,reduceCtorEq,Nat.reduceAdd,Nat.reduceLeDiff,Int.reduceLT,Int.reduceLE,↓u_setN]
 refine LoopQ.inv (S:=Nat) (fun k=>[(0,.sl 1 (L.map cU)),(1,.int .u32 n),(5,.int .i64 (k:Int))]) (fun _=>σ) (fun k=>k≤L.length∧n ∉ L.take k) (fun k=>L.length+1 - k) 0 rfl (Store.sub_refl _) ⟨by omega,by simp⟩ ?_
 rintro k ⟨hk,hn⟩
 simp only [↓vcPre,↓z0,↓reduceIte,vcPost,vcStd,Nat.reduceEqDiff,reduceCtorEq,Nat.reduceAdd,Nat.reduceLeDiff,Int.reduceLT,Int.reduceLE,↓u_setN]
 refine ⟨fun c1 => ?_,fun c1 => ?_⟩
 ·have c1':k<L.length:=by simpa using c1
  have ek:IntKind.i64.wrap ((k:Int)+1)=((k+1:Nat):Int):=by rw [zd (by unfold I64;omega)];omega
  have tk:L.take (k+1)=L.take k++[L[k]]:=by rw [List.take_add_one,List.getElem?_eq_getElem c1'];rfl
  refine ⟨by simpa using c1',by simp [cU],?_⟩
  have hg:oneV (List.take 1 (cU L[k]))=some (.int .u32 L[k]):=rfl
  simp only [hg,↓vcPre,↓z0,↓reduceIte,vcPost,vcStd,Nat.reduceEqDiff,reduceCtorEq,Nat.reduceAdd,Nat.reduceLeDiff,Int.reduceLT,Int.reduceLE,↓u_setN]
  refine ⟨fun h => ?_,fun h => ?_⟩
  ·have:n ∈ L:=h ▸ List.getElem_mem c1'
   exact by simpa using this
  ·simp only [ek,↓vcPre,↓z0,↓reduceIte,vcPost,vcStd,Nat.reduceEqDiff,reduceCtorEq,Nat.reduceAdd,Nat.reduceLeDiff,Int.reduceLT,Int.reduceLE,↓u_setN]
   refine NextQ.to (k+1) rfl (Store.sub_refl _) (by omega) ⟨by omega,?_⟩
   rw [tk]
   intro hm
   rcases List.mem_append.1 hm with h1 | h1
   ·exact hn h1
   ·exact h (by simpa using (List.mem_singleton.1 h1).symm)
 ·have e:L.take k=L:=List.take_of_length_le (by simp at c1;omega)
  rw [e] at hn
  simpa using hn
theorem c84 (a:At):Pur Tryz.prog 84 [.agg a.c] (.int .u32 (if a.hp then a.prf else 100)):=by
 refine zo Tst.F84 (by simp [Tst.F84,Fn.mkX]) fun σ => ?_
 simp only [Tst.F84,Fn.mkX,Tst.b84]
 have e9:a.c.length=9:=rfl
 have b5:List.take 1 (List.drop 5 a.c)=[.bool a.hp]:=rfl
 have b6:List.take 1 (List.drop 6 a.c)=[.int .u32 a.prf]:=rfl
 simp only [↓vcPre,↓z0,↓reduceIte,vcPost,vcStd,Nat.reduceEqDiff,reduceCtorEq,Nat.reduceAdd,Nat.reduceLeDiff,Int.reduceLT,Int.reduceLE,↓u_setN]
 refine AllocQ.i0 fun p hp => ?_
 have sT:=Store.sub_set σ p (.box a.c) hp
 simp only [e9,b5,↓vcPre,↓z0,↓reduceIte,vcPost,vcStd,Nat.reduceEqDiff,reduceCtorEq,Nat.reduceAdd,Nat.reduceLeDiff,Int.reduceLT,Int.reduceLE,↓u_setN]
 cases h:a.hp
 ·simp only [↓vcPre,↓z0,↓reduceIte,vcPost,vcStd,Nat.reduceEqDiff,reduceCtorEq,Nat.reduceAdd,Nat.reduceLeDiff,Int.reduceLT,Int.reduceLE,↓u_setN]
  exact sT
 ·simp only [e9,b6,↓vcPre,↓z0,↓reduceIte,vcPost,vcStd,Nat.reduceEqDiff,reduceCtorEq,Nat.reduceAdd,Nat.reduceLeDiff,Int.reduceLT,Int.reduceLE,↓u_setN]
  exact sT
def sameR (a b:PathR):Bool:=decide (a.peer=b.peer) && (decide (a.id=b.id) && (decide (a.addr=b.addr) && (decide (a.inr=b.inr) && decide (canonA a.a=canonA b.a))))
theorem z4k (a b:At):decide (cmpAs a b=0)=decide (a=b):=decide_eq_decide.2 z3v
theorem c16 (a b:PathR) (ha:a.a.ok) (hb:b.a.ok):Pur Tryz.prog 16 [.agg a.c,.agg b.c] (.bool (sameR a b)):=by
 refine zo Tst.F16 (by simp [Tst.F16,Fn.mkX]) fun σ => ?_
 simp only [Tst.F16,Fn.mkX,Tst.b16]
 have c13:∀ b:PathR,b.c.length=13:=fun _=>rfl
 have b0:∀ b:PathR,List.take 1 b.c=[.int .i64 b.peer]:=fun _=>rfl
 have b1:∀ b:PathR,List.take 1 (List.drop 1 b.c)=[.int .u32 b.id]:=fun _=>rfl
 have b2:∀ b:PathR,List.take 1 (List.drop 2 b.c)=[.int .u32 b.addr]:=fun _=>rfl
 have b3:∀ b:PathR,List.take 1 (List.drop 3 b.c)=[.bool b.inr]:=fun _=>rfl
 have b4:∀ b:PathR,List.take 9 (List.drop 4 b.c)=b.a.c:=fun _=>rfl
 simp only [↓vcPre,↓z0,↓reduceIte,vcPost,vcStd,Nat.reduceEqDiff,reduceCtorEq,Nat.reduceAdd,Nat.reduceLeDiff,Int.reduceLT,Int.reduceLE,↓u_setN]
 refine AllocQ.i0 fun p h1 => ?_
 simp only [↓vcPre,↓z0,↓reduceIte,vcPost,vcStd,Nat.reduceEqDiff,reduceCtorEq,Nat.reduceAdd,Nat.reduceLeDiff,Int.reduceLT,Int.reduceLE,↓u_setN]
 refine AllocQ.i1 fun q h2 h3 h4 => ?_
 have sT:=zn (o := .box a.c) (p := .box b.c) h1 h4 h2
 simp only [c13,b0,b1,b2,b3,b4,h2,h3,↓vcPre,↓z0,↓reduceIte,vcPost,vcStd,Nat.reduceEqDiff,reduceCtorEq,Nat.reduceAdd,Nat.reduceLeDiff,Int.reduceLT,Int.reduceLE,↓u_setN]
 have hc:=c44 a.a b.a ha hb
 rw [z4k] at hc
 refine ⟨fun c1 => ⟨fun c2 => ⟨fun c3 => ?_, fun c3 => ?_⟩, fun c2 => ?_⟩, fun c1 => ?_⟩
 · by_cases c4 : a.inr = b.inr
   · rw [show (a.inr == b.inr) = true by simpa using c4]
     simp only [↓vcPre,↓z0,↓reduceIte,vcPost,vcStd,Nat.reduceEqDiff,reduceCtorEq,Nat.reduceAdd,Nat.reduceLeDiff,Int.reduceLT,Int.reduceLE,↓u_setN]
     refine hc.Q ?_
     simp only [↓vcPre,↓z0,↓reduceIte,vcPost,vcStd,Nat.reduceEqDiff,reduceCtorEq,Nat.reduceAdd,Nat.reduceLeDiff,Int.reduceLT,Int.reduceLE,↓u_setN]
     exact ⟨by simp [sameR, c1, c2, c3, c4], sT⟩
   · rw [show (a.inr == b.inr) = false by simpa using c4]
     simp only [↓vcPre,↓z0,↓reduceIte,vcPost,vcStd,Nat.reduceEqDiff,reduceCtorEq,Nat.reduceAdd,Nat.reduceLeDiff,Int.reduceLT,Int.reduceLE,↓u_setN]
     exact ⟨by simp [sameR, c4], sT⟩
 · exact ⟨by simp [sameR, c3], sT⟩
 · exact ⟨by simp [sameR, c2], sT⟩
 · exact ⟨by simp [sameR, c1], sT⟩
end Go.Am
namespace Go.Am
open Go.Proofs Go.Sort
theorem z8z (l:List Rule) (hl:l.length≤4611686018427387903):Pur Tryz.prog 144 [.sl 12 (l.map Rule.c)] (.bool (rulesOk l)):=fun _=>zgs l hl Rd.sl
theorem z5p {p:Peer→Bool} {l:List Peer} {k:Nat} (h:k<l.length):((l.take (k+1)).any p)=((l.take k).any p || p l[k]):=by
 have e:l.take (k+1)=l.take k++[l[k]]:=by rw [List.take_add_one,List.getElem?_eq_getElem h];rfl
 rw [e,List.any_append,List.any_cons,List.any_nil,Bool.or_false]
section
variable {c:Cfg} {σ:Store} {n rr:Env→Store→Prop} {xx:Nat→Env→Store→Prop} {p1 p4:Nat} {lv kv:AV}
theorem z5a {T:Store} (y:Peer) (hf:y.fit) (T4:T p4=some (.box y.c)) (E:List (Nat×AV))
 (hn:peerOk y=true→n [(1,.ptr p1 0),(3,kv),(126,.bool false)] T) (hr:peerOk y=false→rr [(2,.int .i64 24)] T):bwp Tryz.prog Ts31.t79_101 ((1,.ptr p1 0)::(3,kv)::(4,.ptr p4 0)::E) T n rr xx:=by
 simp only [Ts31.t79_101]
 have e4:y.c.length=4:=rfl
 have f0:List.take 1 y.c=[.int .u32 y.asn]:=rfl
 have f1:List.take 1 (List.drop 1 y.c)=[.int .u32 y.ad]:=rfl
 have f2:List.take 1 (List.drop 2 y.c)=[.sl 12 (y.inn.map Rule.c)]:=rfl
 have f3:List.take 1 (List.drop 3 y.c)=[.sl 12 (y.out.map Rule.c)]:=rfl
 simp only [T4,e4,f0,f1,↓vcPre,↓z0,↓reduceIte,vcPost,vcStd,Nat.reduceEqDiff,reduceCtorEq,Nat.reduceAdd,Nat.reduceLeDiff,Int.reduceLT,Int.reduceLE,↓u_setN]
 refine ⟨fun c1=>⟨fun c2 => ?_,fun c2 => ?_⟩,fun c1 => ?_⟩
 ·refine (z7c y.ad).Q ?_
  cases h1:decide (goodN y.ad)
  ·simp only [↓vcPre,↓z0,↓reduceIte,vcPost,vcStd,Nat.reduceEqDiff,reduceCtorEq,Nat.reduceAdd,Nat.reduceLeDiff,Int.reduceLT,Int.reduceLE,↓u_setN]
   exact hr (by simp [peerOk,h1])
  ·simp only [T4,e4,f2,↓vcPre,↓z0,↓reduceIte,vcPost,vcStd,Nat.reduceEqDiff,reduceCtorEq,Nat.reduceAdd,Nat.reduceLeDiff,Int.reduceLT,Int.reduceLE,↓u_setN]
   refine (z8z y.inn hf.1).Q ?_
   cases h2:rulesOk y.inn
   ·simp only [↓vcPre,↓z0,↓reduceIte,vcPost,vcStd,Nat.reduceEqDiff,reduceCtorEq,Nat.reduceAdd,Nat.reduceLeDiff,Int.reduceLT,Int.reduceLE,↓u_setN]
    exact hr (by simp [peerOk,h2])
   ·simp only [T4,e4,f3,↓vcPre,↓z0,↓reduceIte,vcPost,vcStd,Nat.reduceEqDiff,reduceCtorEq,Nat.reduceAdd,Nat.reduceLeDiff,Int.reduceLT,Int.reduceLE,↓u_setN]
    refine (z8z y.out hf.2).Q ?_
    have g1:decide (1≤y.asn)=true:=by simpa using c1
    have g2:decide (y.asn≤65535)=true:=by simpa using c2
    have hp:peerOk y=rulesOk y.out:=by unfold peerOk;rw [h1,h2,g1,g2];simp
    rw [hp] at hn hr
    cases h3:rulesOk y.out
    ·simp only [↓vcPre,↓z0,↓reduceIte,vcPost,vcStd,Nat.reduceEqDiff,reduceCtorEq,Nat.reduceAdd,Nat.reduceLeDiff,Int.reduceLT,Int.reduceLE,↓u_setN]
     exact hr h3
    ·simp only [↓vcPre,↓z0,↓reduceIte,vcPost,vcStd,Nat.reduceEqDiff,reduceCtorEq,Nat.reduceAdd,Nat.reduceLeDiff,Int.reduceLT,Int.reduceLE,↓u_setN]
     exact hn h3
 ·have g2:decide (y.asn≤65535)=false:=by simpa using c2
  exact hr (by unfold peerOk;rw [g2];simp)
 ·have g1:decide (1≤y.asn)=false:=by simpa using c1
  exact hr (by unfold peerOk;rw [g1];simp)
set_option maxHeartbeats 1000000 in
theorem z8f {T:Store} (hf:∀ p ∈ c.ps,p.fit) (hB:c.ps.length≤4) (hr:Rd 4 σ (c.ps.map Peer.c) lv) (T1:T p1=some (.box (c.cV lv))) (hs:Store.sub σ T) (E:List (Nat×AV))
 (h:∀ t',Store.sub σ t'→rr [(2,.int .i64 (if peersA c.ps then 0 else 24))] t'):bwp Tryz.prog Ts31.t79_3 ((1,.ptr p1 0)::E) T n rr xx:=by
 simp only [Ts31.t79_3]
 have hlen:=hr.2
 rw [List.length_map] at hlen
 have c7:∀ v,(c.cV v).length=7:=fun _=>rfl
 have f3:∀ v,List.take 1 (List.drop 3 (c.cV v))=[v]:=fun _=>rfl
 simp only [↓vcPre,↓z0,↓reduceIte,vcPost,vcStd,Nat.reduceEqDiff,reduceCtorEq,Nat.reduceAdd,Nat.reduceLeDiff,Int.reduceLT,Int.reduceLE,↓u_setN]
 refine LoopQ.inv (S:=Nat) (fun k=>[(1,.ptr p1 0),(3,.int .i64 (k:Int))]) (fun _=>T) (fun k=>k≤c.ps.length∧peersA (c.ps.take k)=true) (fun k=>c.ps.length+1 - k) 0 rfl (Store.sub_refl _) ⟨by omega,by simp [peersA,distA]⟩ ?_
 rintro k ⟨hk,hp⟩
 simp only [T1,c7,f3,hlen,↓vcPre,↓z0,↓reduceIte,vcPost,vcStd,Nat.reduceEqDiff,reduceCtorEq,Nat.reduceAdd,Nat.reduceLeDiff,Int.reduceLT,Int.reduceLE,↓u_setN]
 refine ⟨fun c1 => ?_,fun c1 => ?_⟩
 ·have ek:IntKind.i64.wrap ((k:Int)+1)=((k+1:Nat):Int):=by rw [zd (by unfold I64;omega)];omega
  have c1':k<c.ps.length:=by omega
  obtain ⟨p,hp1,hrd⟩:=hr.at (k:=k) (by simpa using c1')
  have hrd':=hrd T hs 4
  have eg:(c.ps.map Peer.c)[k]'(by simpa using c1')=c.ps[k].c:=List.getElem_map ..
  rw [eg] at hrd'
  have tk:takeN 0 4 c.ps[k].c=some c.ps[k].c:=rfl
  rw [tk] at hrd'
  have hfk:=hf _ (List.getElem_mem c1')
  have hstep:=qy c1'
  have hfalse:=fun h=>q0 (l:=c.ps) (k:=k+1) h
  generalize c.ps[k]=y at hrd' hfk hstep
  have e4:y.c.length=4:=rfl
  have t4:List.take 4 y.c=y.c:=rfl
  have z4:splice 0 y.c [AV.int .u32 0,.int .u32 0,.nils,.nils]=some y.c:=rfl
  have fy1:List.take 1 (List.drop 1 y.c)=[.int .u32 y.ad]:=rfl
  simp only [hp1,hrd',e4,t4,↓vcPre,↓z0,↓reduceIte,vcPost,vcStd,Nat.reduceEqDiff,reduceCtorEq,Nat.reduceAdd,Nat.reduceLeDiff,Int.reduceLT,Int.reduceLE,↓u_setN]
  refine AllocQ.i0 fun p4 h4 => ?_
  simp only [z4,e4,↓vcPre,↓z0,↓reduceIte,vcPost,vcStd,Nat.reduceEqDiff,reduceCtorEq,Nat.reduceAdd,Nat.reduceLeDiff,Int.reduceLT,Int.reduceLE,↓u_setN]
  have sU:Store.sub T ((T.set p4 (.box [AV.int .u32 0,.int .u32 0,.nils,.nils])).set p4 (.box y.c)):=za (Store.sub_set _ _ _ h4) h4
  have U4:=Store.set_same (T.set p4 (.box [AV.int .u32 0,.int .u32 0,.nils,.nils])) p4 (.box y.c)
  generalize (T.set p4 (.box [AV.int .u32 0,.int .u32 0,.nils,.nils])).set p4 (.box y.c)=U at sU U4 ⊢
  have U1:=sU _ _ T1
  have sU2:=Store.sub_trans hs sU
  refine LoopQ.inv (S:=Nat) (fun i=>[(1,.ptr p1 0),(3,.int .i64 (k:Int)),(4,.ptr p4 0),(5,.int .i64 (i:Int))]) (fun _=>U) (fun i=>i≤k∧((c.ps.take i).any fun q=>decide (q.ad=y.ad))=false) (fun i=>k+1 - i) 0 rfl (Store.sub_refl _) ⟨by omega,by simp⟩ ?_
  rintro i ⟨hi,ha⟩
  simp only [↓vcPre,↓z0,↓reduceIte,vcPost,vcStd,Nat.reduceEqDiff,reduceCtorEq,Nat.reduceAdd,Nat.reduceLeDiff,Int.reduceLT,Int.reduceLE,↓u_setN]
  refine ⟨fun c2 => ?_,fun c2 => ?_⟩
  ·have ei:IntKind.i64.wrap ((i:Int)+1)=((i+1:Nat):Int):=by rw [zd (by unfold I64;omega)];omega
   have c2':i<c.ps.length:=by omega
   obtain ⟨q,hq,_,hfl⟩:=hr.atf (k:=i) (by simpa using c2')
   have eq:(c.ps.map Peer.c)[i]'(by simpa using c2')=c.ps[i].c:=List.getElem_map ..
   rw [eq] at hfl
   have hat:=z5p (p:=fun q=>decide (q.ad=y.ad)) c2'
   have hmon:i+1≤k:=by omega
   have hsub:((c.ps.take (i+1)).any fun q=>decide (q.ad=y.ad))=true→((c.ps.take k).any fun q=>decide (q.ad=y.ad))=true:=fun h=>by
    rw [List.any_eq_true] at h ⊢
    obtain ⟨z,hz,hz2⟩:=h
    exact ⟨z,List.take_subset_take_left _ hmon hz,hz2⟩
   generalize c.ps[i]=z at hfl hat
   obtain ⟨q',hq',hrq⟩:=hfl 1 (by simp [Peer.c])
   have hrq':rd U 1 q'=some [.int .u32 z.ad]:=hrq U sU2 1
   simp only [U1,U4,c7,f3,hq,hq',hrq',e4,fy1,↓vcPre,↓z0,↓reduceIte,vcPost,vcStd,Nat.reduceEqDiff,reduceCtorEq,Nat.reduceAdd,Nat.reduceLeDiff,Int.reduceLT,Int.reduceLE,↓u_setN]
   refine ⟨fun c3 => ?_,fun c3 => ?_⟩
   ·have hx:=hfalse (by rw [hstep,hsub (by rw [hat];simp [c3])];simp)
    rw [hx] at h
    exact h _ sU2
   ·simp only [ei,↓vcPre,↓z0,↓reduceIte,vcPost,vcStd,Nat.reduceEqDiff,reduceCtorEq,Nat.reduceAdd,Nat.reduceLeDiff,Int.reduceLT,Int.reduceLE,↓u_setN]
    exact NextQ.to (i+1) rfl (Store.sub_refl _) (by omega) ⟨by omega,by rw [hat,ha];simpa using c3⟩
  ·have:i=k:=by omega
   subst this
   rw [ha] at hstep
   refine z5a y hfk U4 [(5,.int .i64 (i:Int)),(89,.bool (decide (i<i)))] ?_ ?_
   ·intro ho
    simp only [ek,↓vcPre,↓z0,↓reduceIte,vcPost,vcStd,Nat.reduceEqDiff,reduceCtorEq,Nat.reduceAdd,Nat.reduceLeDiff,Int.reduceLT,Int.reduceLE,↓u_setN]
    exact NextQ.to (i+1) rfl sU (by omega) ⟨by omega,by rw [hstep,hp,ho];rfl⟩
   ·intro ho
    have hx:=hfalse (by rw [hstep,ho];simp)
    rw [hx] at h
    exact h _ sU2
 ·have e:c.ps.take k=c.ps:=List.take_of_length_le (by omega)
  rw [e] at hp
  rw [hp] at h
  exact h _ hs
end
set_option maxHeartbeats 1000000 in
set_option maxRecDepth 20000 in
theorem s79 {σ:Store} (c:Cfg) (hf:∀ p ∈ c.ps,p.fit) {lv:AV} (hr:Rd 4 σ (c.ps.map Peer.c) lv):ACalls Tryz.prog 79 [.agg (c.cV lv)] σ (fun r s=>s=σ∧r = .int .i64 (chkA c)):=by
 refine zi Ts31.F79 (by simp [Ts31.F79,Fn.mkX]) ?_
 simp only [Ts31.F79,Fn.mkX,Ts31.b79]
 have hlen:=hr.2
 rw [List.length_map] at hlen
 have c7:∀ v,(c.cV v).length=7:=fun _=>rfl
 have f0:∀ v,List.take 1 (c.cV v)=[.int .u32 c.asn]:=fun _=>rfl
 have f1:∀ v,List.take 1 (List.drop 1 (c.cV v))=[.int .u32 c.id]:=fun _=>rfl
 have f2:∀ v,List.take 1 (List.drop 2 (c.cV v))=[.int .i64 c.hold]:=fun _=>rfl
 have f3:∀ v,List.take 1 (List.drop 3 (c.cV v))=[v]:=fun _=>rfl
 have f4:∀ v,List.take 1 (List.drop 4 (c.cV v))=[.int .i64 c.wd]:=fun _=>rfl
 have f5:∀ v,List.take 1 (List.drop 5 (c.cV v))=[.int .i64 c.dp]:=fun _=>rfl
 have f6:∀ v,List.take 1 (List.drop 6 (c.cV v))=[.int .i64 c.rm]:=fun _=>rfl
 simp only [↓vcPre,↓z0,↓reduceIte,vcPost,vcStd,Nat.reduceEqDiff,reduceCtorEq,Nat.reduceAdd,Nat.reduceLeDiff,Int.reduceLT,Int.reduceLE,↓u_setN]
 refine AllocQ.i0 fun p1 h1 => ?_
 have sT:=Store.sub_set σ p1 (.box (c.cV lv)) h1
 have T1:=Store.set_same σ p1 (.box (c.cV lv))
 generalize σ.set p1 (.box (c.cV lv))=T at sT T1 ⊢
 have e1:¬ cfgA c → @EndQ [(2,.int .i64 1)] T ⟨Ts31.F79.slots,fun r s=>s=σ∧r = .int .i64 (chkA c)⟩:=fun h=>EndQ.to σ _ rfl sT ⟨rfl,by unfold chkA;rw [if_pos h]⟩
 have e4:cfgA c→¬ cfgB c → @EndQ [(2,.int .i64 4)] T ⟨Ts31.F79.slots,fun r s=>s=σ∧r = .int .i64 (chkA c)⟩:=fun h h'=>EndQ.to σ _ rfl sT ⟨rfl,by unfold chkA;rw [if_neg (fun x=>x h),if_pos h']⟩
 have e0:cfgA c→cfgB c→∀ t',Store.sub σ t' → @EndQ [(2,.int .i64 (if peersA c.ps then 0 else 24))] t' ⟨Ts31.F79.slots,fun r s=>s=σ∧r = .int .i64 (chkA c)⟩:=fun h h' t' hs=>EndQ.to σ _ rfl hs ⟨rfl,by unfold chkA;rw [if_neg (show ¬ ¬ cfgA c from fun x=>x h),if_neg (show ¬ ¬ cfgB c from fun x=>x h')]⟩
 simp only [T1,c7,f0,f1,↓vcPre,↓z0,↓reduceIte,vcPost,vcStd,Nat.reduceEqDiff,reduceCtorEq,Nat.reduceAdd,Nat.reduceLeDiff,Int.reduceLT,Int.reduceLE,↓u_setN]
 refine ⟨fun c1=>⟨fun c2 => ?_,fun c2 => ?_⟩,fun c1 => ?_⟩
 ·refine (z7c c.id).Q ?_
  cases hg:decide (goodN c.id)
  ·have hg':¬ goodN c.id:=by simpa using hg
   simp only [↓vcPre,↓z0,↓reduceIte,vcPost,vcStd,Nat.reduceEqDiff,reduceCtorEq,Nat.reduceAdd,Nat.reduceLeDiff,Int.reduceLT,Int.reduceLE,↓u_setN]
   exact e1 (fun h=>hg' h.2.1)
  ·have hg':goodN c.id:=by simpa using hg
   simp only [T1,c7,f2,f3,f4,f5,f6,hlen,↓vcPre,↓z0,↓reduceIte,vcPost,vcStd,Nat.reduceEqDiff,reduceCtorEq,Nat.reduceAdd,Nat.reduceLeDiff,Int.reduceLT,Int.reduceLE,↓u_setN]
   repeat' (with_reducible refine And.intro (fun _ => ?_) (fun _ => ?_))
   all_goals first
    | exact e1 (fun h=>by unfold cfgA at h;omega)
    | exact e4 ⟨⟨by omega,by omega⟩,hg',by omega,by omega,⟨by omega,by omega⟩,⟨by omega,by omega⟩,⟨by omega,by omega⟩⟩ (fun h=>by unfold cfgB at h;omega)
    | (exfalso;omega)
    | exact z8f hf (by omega) hr T1 sT _ (e0 ⟨⟨by omega,by omega⟩,hg',by omega,by omega,⟨by omega,by omega⟩,⟨by omega,by omega⟩,⟨by omega,by omega⟩⟩ ⟨by omega,by omega⟩)
 ·exact e1 (fun h=>by unfold cfgA at h;omega)
 ·exact e1 (fun h=>by unfold cfgA at h;omega)
end Go.Am
namespace Go.Am
open Go.Proofs Go.Sort
theorem z6d {a:At} (h:atRight a):encOk a:=by
 refine ⟨by have:=h.2.1.2;omega,fun s hs => ?_,by have:=h.2.2.2.2.2.1;omega⟩
 have:=h.2.1.1 s hs
 have:=this.2.2
 omega
section
variable {c:Cfg} {σ:Store} {n rr:Env→Store→Prop} {xx:Nat→Env→Store→Prop} {p4 p6 p8 p11:Nat} {lv:AV} {k:Nat} {q:Int×Int}
theorem z1y {T:Store} (a:At) (ha:a.ok) (T8:T p8=some (.box zCells)) (T11:T p11=some (.box a.c)) (n8:¬ p8=p11) (hs:Store.sub σ T) (h8:σ p8=none) (E:List (Nat×AV))
 (hT:∀ t',Store.sub σ t'→t' p8=some (.box a.c)→fitT a true→rr [(8,.ptr p8 0),(9,.bool true)] t')
 (hF:∀ t',Store.sub σ t'→t' p8=some (.box zCells)→¬ fitT a true→rr [(8,.ptr p8 0),(9,.bool false)] t') :
 bwp Tryz.prog Ts31.t42_118 ((8,.ptr p8 0)::(11,.ptr p11 0)::E) T n rr xx:=by
 simp only [Ts31.t42_118,yi]
 have e9:∀ y:At,y.c.length=9:=fun _=>rfl
 have t9:∀ y:At,List.take 9 y.c=y.c:=fun _=>rfl
 have hz:∀ y:At,splice 0 y.c zCells=some y.c:=fun _=>rfl
 have hzz:splice 0 zCells zCells=some zCells:=rfl
 have z9:zCells.length=9:=rfl
 simp only [T11,e9,t9,↓vcPre,↓z0,↓reduceIte,vcPost,vcStd,Nat.reduceEqDiff,reduceCtorEq,Nat.reduceAdd,Nat.reduceLeDiff,Int.reduceLT,Int.reduceLE,↓u_setN]
 refine (c81 a ha).Q ?_
 by_cases hr:atRight a
 ·rw [decide_eq_true hr]
  simp only [T11,e9,t9,↓vcPre,↓z0,↓reduceIte,vcPost,vcStd,Nat.reduceEqDiff,reduceCtorEq,Nat.reduceAdd,Nat.reduceLeDiff,Int.reduceLT,Int.reduceLE,↓u_setN]
  refine (s87 a (z6d hr) T).Q ?_
  rintro r U ⟨sU,ho⟩
  have hl:=(Rd.own ho).2
  rw [List.length_map] at hl
  have U11:=sU _ _ T11
  have U8:=sU _ _ T8
  have hsU:=Store.sub_trans hs sU
  simp only [hl,U8,hzz,z9,U11,e9,t9,hz,↓vcPre,↓z0,↓reduceIte,vcPost,vcStd,Nat.reduceEqDiff,reduceCtorEq,Nat.reduceAdd,Nat.reduceLeDiff,Int.reduceLT,Int.reduceLE,↓u_setN]
  exact ⟨fun h=>hF _ (za hsU h8) (Store.set_same _ _ _) (fun h2=>by have:=h2.2.2;omega),fun h=>hT _ (za hsU h8) (Store.set_same _ _ _) ⟨rfl,hr,by omega⟩⟩
 ·rw [show decide (atRight a)=false by simpa using hr]
  simp only [T8,hzz,z9,↓vcPre,↓z0,↓reduceIte,vcPost,vcStd,Nat.reduceEqDiff,reduceCtorEq,Nat.reduceAdd,Nat.reduceLeDiff,Int.reduceLT,Int.reduceLE,↓u_setN]
  exact hF _ (za hs h8) (Store.set_same _ _ _) (fun h=>hr h.2.1)
set_option maxHeartbeats 1000000 in
theorem z35 {T:Store} (hk:k<c.ps.length) (hf:c.ps[k].fit) (a:At) (ha:a.ok) (ha2:a.path.length≤900000) (ha3:a.cms.length≤900000) (hr:Rd 4 σ (c.ps.map Peer.c) lv) (T4:T p4=some (.box (c.cV lv))) (T6:T p6=some (.box [.int .u32 q.1,.int .i64 q.2])) (T8:T p8=some (.box zCells)) (T11:T p11=some (.box a.c))
 (h811:¬ p8=p11) (hs:Store.sub σ T) (h8:σ p8=none) (h11:σ p11=none)
 (hT:∀ t',Store.sub σ t'→t' p8=some (.box (tailT c c.ps[k] q a).1.c)→(tailT c c.ps[k] q a).2=true→rr [(8,.ptr p8 0),(9,.bool true)] t')
 (hF:∀ t',Store.sub σ t'→t' p8=some (.box zCells)→tailT c c.ps[k] q a=(zeroAt,false)→rr [(8,.ptr p8 0),(9,.bool false)] t') :
 bwp Tryz.prog Ts31.t42_98 [(1,.int .i64 (k:Int)),(4,.ptr p4 0),(6,.ptr p6 0),(8,.ptr p8 0),(10,.bool (innerA c c.ps[k])),(11,.ptr p11 0)] T n rr xx:=by
 simp only [Ts31.t42_98,yi]
 have e9:∀ y:At,y.c.length=9:=fun _=>rfl
 have t9:∀ y:At,List.take 9 y.c=y.c:=fun _=>rfl
 have sA:∀ y w:At,splice 0 y.c w.c=some y.c:=fun _ _=>rfl
 have hz:∀ y:At,splice 0 y.c zCells=some y.c:=fun _=>rfl
 have hzz:splice 0 zCells zCells=some zCells:=rfl
 have z9:zCells.length=9:=rfl
 have c7:∀ v,(c.cV v).length=7:=fun _=>rfl
 have f0:∀ v,List.take 1 (c.cV v)=[.int .u32 c.asn]:=fun _=>rfl
 have f3:∀ v,List.take 1 (List.drop 3 (c.cV v))=[v]:=fun _=>rfl
 obtain ⟨p,hp,_,hfl⟩:=hr.atf (k:=k) (by simpa using hk)
 have eg:(c.ps.map Peer.c)[k]'(by simpa using hk)=c.ps[k].c:=List.getElem_map ..
 rw [eg] at hfl
 generalize c.ps[k]=y at hfl hf hT hF ⊢
 obtain ⟨p',hp',hrd⟩:=hfl 3 (by simp [Peer.c])
 have hrd':rd T 1 p'=some [.sl 12 (y.out.map Rule.c)]:=hrd T hs 1
 simp only [T4,T6,T11,c7,f0,f3,hp,hp',hrd',e9,t9,↓vcPre,↓z0,↓reduceIte,vcPost,vcStd,Nat.reduceEqDiff,reduceCtorEq,Nat.reduceAdd,Nat.reduceLeDiff,Int.reduceLT,Int.reduceLE,↓u_setN]
 refine (s86 y.out q c.asn a ha ha2 ha3 hf.2 Rd.sl).Q ?_
 rintro v T ⟨rfl,rfl⟩
 rw [z4f]
 have hok:=up (rs:=y.out) (x:=c.asn) (q:=q) ha ha2 ha3
 unfold tailT at hT hF
 generalize applyA y.out c.asn q a=R at hok hT hF ⊢
 have s5:∀ b:At,splice 5 [.bool false] b.c=some ({ b with hp:=false }:At).c:=fun _=>rfl
 have s6:∀ b:At,splice 6 [.int .u32 0] b.c=some ({ b with prf:=0 }:At).c:=fun _=>rfl
 have hokL:(lastT c y R.1).ok:=by unfold lastT;split <;> exact hok
 have hT':∀ t',Store.sub σ t'→t' p8=some (.box (lastT c y R.1).c)→fitT (lastT c y R.1) R.2→rr [(8,.ptr p8 0),(9,.bool true)] t':=fun t' h1 h2 h3=>hT t' h1 (by rw [if_pos h3];exact h2) (by rw [if_pos h3])
 have hF':∀ t',Store.sub σ t'→t' p8=some (.box zCells)→¬ fitT (lastT c y R.1) R.2→rr [(8,.ptr p8 0),(9,.bool false)] t':=fun t' h1 h2 h3=>hF t' h1 h2 (by rw [if_neg h3])
 clear hT hF
 simp only [T11,sA,e9,↓vcPre,↓z0,↓reduceIte,vcPost,vcStd,Nat.reduceEqDiff,reduceCtorEq,Nat.reduceAdd,Nat.reduceLeDiff,Int.reduceLT,Int.reduceLE,↓u_setN]
 cases hb:R.2
 ·rw [hb] at hT' hF'
  simp only [T8,hzz,z9,h811,↓vcPre,↓z0,↓reduceIte,vcPost,vcStd,Nat.reduceEqDiff,reduceCtorEq,Nat.reduceAdd,Nat.reduceLeDiff,Int.reduceLT,Int.reduceLE,↓u_setN]
  exact hF' _ (za (za hs h11) h8) (Store.set_same _ _ _) (fun h=>by cases h.1)
 ·rw [hb] at hT' hF'
  simp only [↓vcPre,↓z0,↓reduceIte,vcPost,vcStd,Nat.reduceEqDiff,reduceCtorEq,Nat.reduceAdd,Nat.reduceLeDiff,Int.reduceLT,Int.reduceLE,↓u_setN]
  cases hi:innerA c y
  ·have hL:lastT c y R.1={ R.1 with hp:=false,prf:=0 }:=by unfold lastT;rw [hi];rfl
   rw [hL] at hokL hT' hF'
   simp only [s5,s6,e9,↓vcPre,↓z0,↓reduceIte,vcPost,vcStd,Nat.reduceEqDiff,reduceCtorEq,Nat.reduceAdd,Nat.reduceLeDiff,Int.reduceLT,Int.reduceLE,↓u_setN]
   exact z1y (σ:=σ) _ hokL ((Store.set_ne _ _ h811).trans ((Store.set_ne _ _ h811).trans ((Store.set_ne _ _ h811).trans T8))) (Store.set_same _ _ _) h811 (za (za (za hs h11) h11) h11) h8 _ hT' hF'
  ·have hL:lastT c y R.1=R.1:=by unfold lastT;rw [hi];rfl
   rw [hL] at hokL hT' hF'
   simp only [↓vcPre,↓z0,↓reduceIte,vcPost,vcStd,Nat.reduceEqDiff,reduceCtorEq,Nat.reduceAdd,Nat.reduceLeDiff,Int.reduceLT,Int.reduceLE,↓u_setN]
   exact z1y (σ:=σ) _ hokL ((Store.set_ne _ _ h811).trans T8) (Store.set_same _ _ _) h811 (za hs h11) h8 _ hT' hF'
set_option maxHeartbeats 1000000 in
theorem z8d {T:Store} {p7:Nat} (b:PathR) (hb:b.a.ok) (har:atRight b.a) (hm:k<c.ps.length) (hfk:c.ps[k].fit) (hr:Rd 4 σ (c.ps.map Peer.c) lv) (T4:T p4=some (.box (c.cV lv))) (T6:T p6=some (.box [.int .u32 q.1,.int .i64 q.2])) (T7:T p7=some (.box b.c)) (T8:T p8=some (.box zCells))
 (sT:Store.sub σ T) (h8:σ p8=none) (E:List (Nat×AV))
 (hT:∀ t',Store.sub σ t'→t' p8=some (.box (tailT c c.ps[k] q (startT c c.ps[k] b.a)).1.c)→(tailT c c.ps[k] q (startT c c.ps[k] b.a)).2=true→rr [(8,.ptr p8 0),(9,.bool true)] t')
 (hF:∀ t',Store.sub σ t'→t' p8=some (.box zCells)→tailT c c.ps[k] q (startT c c.ps[k] b.a)=(zeroAt,false)→rr [(8,.ptr p8 0),(9,.bool false)] t') :
 bwp Tryz.prog Ts31.t42_76 ((1,.int .i64 (k:Int))::(4,.ptr p4 0)::(6,.ptr p6 0)::(7,.ptr p7 0)::(8,.ptr p8 0)::(10,.bool (innerA c c.ps[k]))::E) T n rr xx:=by
 simp only [Ts31.t42_76,yi]
 have e9:∀ y:At,y.c.length=9:=fun _=>rfl
 have t9:∀ y:At,List.take 9 y.c=y.c:=fun _=>rfl
 have hz:∀ y:At,splice 0 y.c zCells=some y.c:=fun _=>rfl
 have c7:∀ v,(c.cV v).length=7:=fun _=>rfl
 have f0:∀ v,List.take 1 (c.cV v)=[.int .u32 c.asn]:=fun _=>rfl
 have f1:∀ v,List.take 1 (List.drop 1 (c.cV v))=[.int .u32 c.id]:=fun _=>rfl
 have b13:b.c.length=13:=rfl
 have tb4:List.take 9 (List.drop 4 b.c)=b.a.c:=rfl
 simp only [T7,b13,tb4,↓vcPre,↓z0,↓reduceIte,vcPost,vcStd,Nat.reduceEqDiff,reduceCtorEq,Nat.reduceAdd,Nat.reduceLeDiff,Int.reduceLT,Int.reduceLE,↓u_setN]
 refine (c83 b.a hb).Q ?_
 simp only [↓vcPre,↓z0,↓reduceIte,vcPost,vcStd,Nat.reduceEqDiff,reduceCtorEq,Nat.reduceAdd,Nat.reduceLeDiff,Int.reduceLT,Int.reduceLE,↓u_setN]
 refine AllocQ.i0 fun p11 h11 => ?_
 have h811:¬ p8=p11:=fun e=>by subst e;rw [T8] at h11;cases h11
 simp only [hz,e9,↓vcPre,↓z0,↓reduceIte,vcPost,vcStd,Nat.reduceEqDiff,reduceCtorEq,Nat.reduceAdd,Nat.reduceLeDiff,Int.reduceLT,Int.reduceLE,↓u_setN]
 have σ11:=zm sT h11
 have sU:Store.sub T ((T.set p11 (.box zCells)).set p11 (.box (canonA b.a).c)):=za (Store.sub_set _ _ _ h11) h11
 have U11:=Store.set_same (T.set p11 (.box zCells)) p11 (.box (canonA b.a).c)
 generalize (T.set p11 (.box zCells)).set p11 (.box (canonA b.a).c)=U at sU U11 ⊢
 have U4:=sU _ _ T4
 have U6:=sU _ _ T6
 have U8:=sU _ _ T8
 have sU2:=Store.sub_trans sT sU
 have hcan:(canonA b.a).ok:=y0 hb
 have hcp:(canonA b.a).path.length≤16:=har.2.1.2
 have hcc:(canonA b.a).cms.length≤32:=by have:=x5 b.a.cms;have:=har.2.2.2.2.2.1;simp only [canonA];omega
 have hSA:startT c c.ps[k] b.a=if innerA c c.ps[k] then { canonA b.a with hp:=true,prf:=if (canonA b.a).hp then (canonA b.a).prf else 100 } else { canonA b.a with path:=preA c.asn 1 (canonA b.a).path,nxt:=c.id,hm:=false,med:=0,hp:=false,prf:=0 }:=rfl
 generalize canonA b.a=a0 at U11 hcan hcp hcc hSA
 have b1:∀ b:At,List.take 1 (List.drop 1 b.c)=[.sl 2 (b.path.map Seg.c)]:=fun _=>rfl
 have s1:∀ (b:At) P,splice 1 [.sl 2 (P.map Seg.c)] b.c=some ({ b with path:=P }:At).c:=fun _ _=>rfl
 have s2:∀ (b:At) x,splice 2 [.int .u32 x] b.c=some ({ b with nxt:=x }:At).c:=fun _ _=>rfl
 have s3:∀ (b:At) x,splice 3 [.bool x] b.c=some ({ b with hm:=x }:At).c:=fun _ _=>rfl
 have s4:∀ (b:At) x,splice 4 [.int .u32 x] b.c=some ({ b with med:=x }:At).c:=fun _ _=>rfl
 have s5:∀ (b:At) x,splice 5 [.bool x] b.c=some ({ b with hp:=x }:At).c:=fun _ _=>rfl
 have s6:∀ (b:At) x,splice 6 [.int .u32 x] b.c=some ({ b with prf:=x }:At).c:=fun _ _=>rfl
 have n411:¬ p4=p11:=fun e=>by subst e;rw [T4] at h11;cases h11
 have n611:¬ p6=p11:=fun e=>by subst e;rw [T6] at h11;cases h11
 cases hi:innerA c c.ps[k]
 ·rw [hi] at hSA
  simp only [Bool.false_eq_true,if_false] at hSA
  rw [hSA] at hT hF
  simp only [U11,U4,e9,t9,b1,c7,f0,↓vcPre,↓z0,↓reduceIte,vcPost,vcStd,Nat.reduceEqDiff,reduceCtorEq,Nat.reduceAdd,Nat.reduceLeDiff,Int.reduceLT,Int.reduceLE,↓u_setN]
  have h16:=xn c.asn 1 a0.path
  have hpo:=wo c.asn 1 a0.path hcan.2.1
  have hpp:=c85 a0.path hcan.1 hcan.2.1 c.asn 1
  rw [show preN 1=1 from rfl] at hpp
  refine hpp.Q ?_
  simp only [U11,U4,e9,s1,s2,s3,s4,s5,s6,n411,c7,f1,↓vcPre,↓z0,↓reduceIte,vcPost,vcStd,Nat.reduceEqDiff,reduceCtorEq,Nat.reduceAdd,Nat.reduceLeDiff,Int.reduceLT,Int.reduceLE,↓u_setN]
  simp only [Store.set_set]
  rw [show (AV.bool false)=AV.bool (innerA c c.ps[k]) by rw [hi]]
  exact z35 (σ:=σ) hm hfk { a0 with path:=preA c.asn 1 a0.path,nxt:=c.id,hm:=false,med:=0,hp:=false,prf:=0 } ⟨by simp only;omega,hpo,hcan.2.2⟩ (by simp only;omega) (by simp only;omega) hr ((Store.set_ne _ _ n411).trans U4) ((Store.set_ne _ _ n611).trans U6) ((Store.set_ne _ _ h811).trans U8) (Store.set_same _ _ _) h811 (za sU2 σ11) h8 σ11 hT hF
 ·rw [hi,if_pos rfl] at hSA
  rw [hSA] at hT hF
  simp only [U11,e9,t9,↓vcPre,↓z0,↓reduceIte,vcPost,vcStd,Nat.reduceEqDiff,reduceCtorEq,Nat.reduceAdd,Nat.reduceLeDiff,Int.reduceLT,Int.reduceLE,↓u_setN]
  refine (c84 a0).Q ?_
  simp only [U11,e9,s5,s6,↓vcPre,↓z0,↓reduceIte,vcPost,vcStd,Nat.reduceEqDiff,reduceCtorEq,Nat.reduceAdd,Nat.reduceLeDiff,Int.reduceLT,Int.reduceLE,↓u_setN]
  simp only [Store.set_set]
  rw [show (AV.bool true)=AV.bool (innerA c c.ps[k]) by rw [hi]]
  exact z35 (σ:=σ) hm hfk { a0 with hp:=true,prf:=if a0.hp then a0.prf else 100 } hcan (by simp only;omega) (by simp only;omega) hr ((Store.set_ne _ _ n411).trans U4) ((Store.set_ne _ _ n611).trans U6) ((Store.set_ne _ _ h811).trans U8) (Store.set_same _ _ _) h811 (za sU2 σ11) h8 σ11 hT hF
end
end Go.Am
namespace Go.Am
open Go.Proofs Go.Sort
set_option maxHeartbeats 2000000 in
set_option maxRecDepth 20000 in
theorem s42 {σ:Store} (c:Cfg) (hf:∀ p ∈ c.ps,p.fit) (k:Int) (q:Int×Int) (b:PathR) (hb:b.a.ok) {lv:AV} (hr:Rd 4 σ (c.ps.map Peer.c) lv) :
 ACalls Tryz.prog 42 [.agg (c.cV lv),.int .i64 k,.agg [.int .u32 q.1,.int .i64 q.2],.agg b.c] σ (fun r s=>s=σ∧r = .tup [.agg (toldA c k q b).1.c,.bool (toldA c k q b).2]):=by
 refine zi Ts31.F42 (by simp [Ts31.F42,Fn.mkX]) ?_
 simp only [Ts31.F42,Fn.mkX,Ts31.b42,yi]
 have e9:∀ y:At,y.c.length=9:=fun _=>rfl
 have t9:∀ y:At,List.take 9 y.c=y.c:=fun _=>rfl
 have sA:∀ y w:At,splice 0 y.c w.c=some y.c:=fun _ _=>rfl
 have hz:∀ y:At,splice 0 y.c zCells=some y.c:=fun _=>rfl
 have hzz:splice 0 zCells zCells=some zCells:=rfl
 have z9:zCells.length=9:=rfl
 have y9:List.take 9 zCells=zCells:=rfl
 have c7:∀ v,(c.cV v).length=7:=fun _=>rfl
 have t7:∀ v,List.take 7 (c.cV v)=c.cV v:=fun _=>rfl
 have f0:∀ v,List.take 1 (c.cV v)=[.int .u32 c.asn]:=fun _=>rfl
 have f1:∀ v,List.take 1 (List.drop 1 (c.cV v))=[.int .u32 c.id]:=fun _=>rfl
 have f3:∀ v,List.take 1 (List.drop 3 (c.cV v))=[v]:=fun _=>rfl
 have b13:b.c.length=13:=rfl
 have b0:List.take 1 b.c=[.int .i64 b.peer]:=rfl
 have b3:List.take 1 (List.drop 3 b.c)=[.bool b.inr]:=rfl
 have b12:List.take 1 (List.drop 12 b.c)=[.sl 1 (b.a.cms.map cU)]:=rfl
 have tb4:List.take 9 (List.drop 4 b.c)=b.a.c:=rfl
 have hlen:=hr.2
 rw [List.length_map] at hlen
 simp only [↓vcPre,↓z0,↓reduceIte,vcPost,vcStd,Nat.reduceEqDiff,reduceCtorEq,Nat.reduceAdd,Nat.reduceLeDiff,Int.reduceLT,Int.reduceLE,↓u_setN]
 refine AllocQ.i0 fun p4 h4 => ?_
 simp only [↓vcPre,↓z0,↓reduceIte,vcPost,vcStd,Nat.reduceEqDiff,reduceCtorEq,Nat.reduceAdd,Nat.reduceLeDiff,Int.reduceLT,Int.reduceLE,↓u_setN]
 refine AllocQ.i1 fun p6 h64 h46 h6 => ?_
 simp only [↓vcPre,↓z0,↓reduceIte,vcPost,vcStd,Nat.reduceEqDiff,reduceCtorEq,Nat.reduceAdd,Nat.reduceLeDiff,Int.reduceLT,Int.reduceLE,↓u_setN]
 refine AllocQ.i2 fun p7 h74 h47 h76 h67 h7 => ?_
 simp only [↓vcPre,↓z0,↓reduceIte,vcPost,vcStd,Nat.reduceEqDiff,reduceCtorEq,Nat.reduceAdd,Nat.reduceLeDiff,Int.reduceLT,Int.reduceLE,↓u_setN]
 refine AllocQ.i0 fun p8 h8' => ?_
 have s3:Store.sub σ (((σ.set p4 (.box (c.cV lv))).set p6 (.box [.int .u32 q.1,.int .i64 q.2])).set p7 (.box b.c)):=za (zn h4 h6 h64) h7
 have sT:=Store.sub_trans s3 (Store.sub_set _ p8 (.box zCells) h8')
 have h8:σ p8=none:=zm s3 h8'
 have A7:=Store.set_same ((σ.set p4 (.box (c.cV lv))).set p6 (.box [.int .u32 q.1,.int .i64 q.2])) p7 (.box b.c)
 have A6:(((σ.set p4 (.box (c.cV lv))).set p6 (.box [.int .u32 q.1,.int .i64 q.2])).set p7 (.box b.c)) p6=some (.box [.int .u32 q.1,.int .i64 q.2]):=by rw [Store.set_ne _ _ h67];exact Store.set_same _ _ _
 have A4:(((σ.set p4 (.box (c.cV lv))).set p6 (.box [.int .u32 q.1,.int .i64 q.2])).set p7 (.box b.c)) p4=some (.box (c.cV lv)):=by rw [Store.set_ne _ _ h47,Store.set_ne _ _ h46];exact Store.set_same _ _ _
 have T7:=Store.sub_set _ p8 (.box zCells) h8' _ _ A7
 have T6:=Store.sub_set _ p8 (.box zCells) h8' _ _ A6
 have T4:=Store.sub_set _ p8 (.box zCells) h8' _ _ A4
 have T8:=Store.set_same (((σ.set p4 (.box (c.cV lv))).set p6 (.box [.int .u32 q.1,.int .i64 q.2])).set p7 (.box b.c)) p8 (.box zCells)
 generalize (((σ.set p4 (.box (c.cV lv))).set p6 (.box [.int .u32 q.1,.int .i64 q.2])).set p7 (.box b.c)).set p8 (.box zCells)=T at sT T4 T6 T7 T8 ⊢
 have no:toldA c k q b=(zeroAt,false) → @EndQ [(8,.ptr p8 0),(9,.bool false)] (T.set p8 (.box zCells)) ⟨Ts31.F42.slots,fun r s=>s=σ∧r = .tup [.agg (toldA c k q b).1.c,.bool (toldA c k q b).2]⟩:=fun h=>by
  rw [h]
  refine EndQ.two (.agg zCells) (.bool false) σ ?_ ?_
  ·show Env.res [(8,AV.ptr p8 0),(9,.bool false)] _ [RS.c 8 9 true,RS.t 9]=_
   simp only [Store.set_same,z9,y9,Nat.le_refl,↓vcPre,↓z0,↓reduceIte,vcPost,vcStd,Nat.reduceEqDiff,reduceCtorEq,Nat.reduceAdd,Nat.reduceLeDiff,Int.reduceLT,Int.reduceLE,↓u_setN]
  ·exact WeakL.pos 0 rfl (v8 (WeakL.forget (za sT h8) (WeakL.pure ⟨rfl,rfl⟩)))
 simp only [T4,c7,t7,↓vcPre,↓z0,↓reduceIte,vcPost,vcStd,Nat.reduceEqDiff,reduceCtorEq,Nat.reduceAdd,Nat.reduceLeDiff,Int.reduceLT,Int.reduceLE,↓u_setN]
 refine (s79 c hf (hr.mono sT)).Q ?_
 rintro v T ⟨rfl,rfl⟩
 have hc:¬ chkA c=0→toldA c k q b=(zeroAt,false):=fun h=>by unfold toldA;rw [if_neg (fun x=>h x.1)]
 have hk0:k<0→toldA c k q b=(zeroAt,false):=fun h=>by unfold toldA;rw [if_neg (fun x=>by omega)]
 simp only [T8,hzz,z9,T4,c7,f3,hlen,↓vcPre,↓z0,↓reduceIte,vcPost,vcStd,Nat.reduceEqDiff,reduceCtorEq,Nat.reduceAdd,Nat.reduceLeDiff,Int.reduceLT,Int.reduceLE,↓u_setN]
 refine ⟨fun g1=>⟨fun g2=>⟨fun g3 => ?_,fun g3 => ?_⟩,fun g2=>no (hk0 g2)⟩,fun g1=>no (hc g1)⟩
 ·obtain ⟨m,rfl⟩:∃ m:Nat,k=(m:Int):=⟨k.toNat,by omega⟩
  have hm:m<c.ps.length:=by omega
  have hget:c.ps[(m:Int).toNat]? = some c.ps[m]:=by rw [Int.toNat_natCast];exact List.getElem?_eq_getElem hm
  have hA:toldA c m q b=if rightF q.1 q.2=true∧atRight b.a∧hiddenA c m c.ps[m] b=false then tailT c c.ps[m] q (startT c c.ps[m] b.a) else (zeroAt,false):=by
   unfold toldA;rw [if_pos ⟨g1,by omega⟩,hget]
  simp only [T6,↓vcPre,↓z0,↓reduceIte,vcPost,vcStd,Nat.reduceEqDiff,reduceCtorEq,Nat.reduceAdd,Nat.reduceLeDiff,Int.reduceLT,Int.reduceLE,↓u_setN]
  refine (c80 q.1 q.2).Q ?_
  cases hq:rightF q.1 q.2
  ·simp only [T8,hzz,z9,↓vcPre,↓z0,↓reduceIte,vcPost,vcStd,Nat.reduceEqDiff,reduceCtorEq,Nat.reduceAdd,Nat.reduceLeDiff,Int.reduceLT,Int.reduceLE,↓u_setN]
   exact no (by rw [hA,if_neg (fun h=>by rw [hq] at h;cases h.1)])
  ·simp only [T7,b13,tb4,↓vcPre,↓z0,↓reduceIte,vcPost,vcStd,Nat.reduceEqDiff,reduceCtorEq,Nat.reduceAdd,Nat.reduceLeDiff,Int.reduceLT,Int.reduceLE,↓u_setN]
   refine (c81 b.a hb).Q ?_
   by_cases har:atRight b.a
   ·rw [show decide (atRight b.a)=true by simpa using har]
    simp only [T7,b13,b0,↓vcPre,↓z0,↓reduceIte,vcPost,vcStd,Nat.reduceEqDiff,reduceCtorEq,Nat.reduceAdd,Nat.reduceLeDiff,Int.reduceLT,Int.reduceLE,↓u_setN]
    refine ⟨fun hpe => ?_,fun hpe => ?_⟩
    ·simp only [T8,hzz,z9,↓vcPre,↓z0,↓reduceIte,vcPost,vcStd,Nat.reduceEqDiff,reduceCtorEq,Nat.reduceAdd,Nat.reduceLeDiff,Int.reduceLT,Int.reduceLE,↓u_setN]
     exact no (by rw [hA,if_neg (fun h=>by have:=h.2.2;unfold hiddenA at this;rw [decide_eq_true hpe] at this;cases this)])
    ·obtain ⟨p,hp,_,hfl⟩:=hr.atf (k:=m) (by simpa using hm)
     have eg:(c.ps.map Peer.c)[m]'(by simpa using hm)=c.ps[m].c:=List.getElem_map ..
     rw [eg] at hfl
     obtain ⟨p',hp',hrd⟩:=hfl 0 (by simp [Peer.c])
     have hrd':∀ U,Store.sub σ U→rd U 1 p'=some [.int .u32 c.ps[m].asn]:=fun U sU2=>hrd U sU2 1
     have hrT:=hrd' T sT
     have hdi:decide (c.ps[m].asn=c.asn)=innerA c c.ps[m]:=rfl
     have hfk:=hf _ (List.getElem_mem hm)
     have hd0:decide (b.peer=(m:Int))=false:=by simpa using hpe
     have hHid:hiddenA c m c.ps[m] b=((b.inr && innerA c c.ps[m]) || (decide ((4294967042:Int) ∈ b.a.cms) || (decide ((4294967041:Int) ∈ b.a.cms) && !innerA c c.ps[m]))):=by unfold hiddenA;rw [hd0];rfl
     rw [hHid] at hA
     have hT:tailT c c.ps[m] q (startT c c.ps[m] b.a)=toldA c m q b→∀ t',Store.sub σ t'→t' p8=some (.box (tailT c c.ps[m] q (startT c c.ps[m] b.a)).1.c)→(tailT c c.ps[m] q (startT c c.ps[m] b.a)).2=true → @EndQ [(8,.ptr p8 0),(9,.bool true)] t' ⟨Ts31.F42.slots,fun r s=>s=σ∧r = .tup [.agg (toldA c m q b).1.c,.bool (toldA c m q b).2]⟩:=fun hA2 t' w1 w2 w3=>by
      rw [←hA2]
      refine EndQ.to σ (.tup [.agg (tailT c c.ps[m] q (startT c c.ps[m] b.a)).1.c,.bool true]) ?_ w1 ⟨rfl,by rw [w3]⟩
      show Env.res [(8,AV.ptr p8 0),(9,.bool true)] _ [RS.c 8 9 true,RS.t 9]=_
      simp only [w2,e9,t9,Nat.le_refl,↓vcPre,↓z0,↓reduceIte,vcPost,vcStd,Nat.reduceEqDiff,reduceCtorEq,Nat.reduceAdd,Nat.reduceLeDiff,Int.reduceLT,Int.reduceLE,↓u_setN]
     have hF:tailT c c.ps[m] q (startT c c.ps[m] b.a)=toldA c m q b→∀ t',Store.sub σ t'→t' p8=some (.box zCells)→tailT c c.ps[m] q (startT c c.ps[m] b.a)=(zeroAt,false) → @EndQ [(8,.ptr p8 0),(9,.bool false)] t' ⟨Ts31.F42.slots,fun r s=>s=σ∧r = .tup [.agg (toldA c m q b).1.c,.bool (toldA c m q b).2]⟩:=fun hA2 t' w1 w2 w3=>by
      rw [←hA2,w3]
      refine EndQ.two (.agg zCells) (.bool false) σ ?_ ?_
      ·show Env.res [(8,AV.ptr p8 0),(9,.bool false)] _ [RS.c 8 9 true,RS.t 9]=_
       simp only [w2,z9,y9,Nat.le_refl,↓vcPre,↓z0,↓reduceIte,vcPost,vcStd,Nat.reduceEqDiff,reduceCtorEq,Nat.reduceAdd,Nat.reduceLeDiff,Int.reduceLT,Int.reduceLE,↓u_setN]
      ·exact WeakL.pos 0 rfl (v8 (WeakL.forget w1 (WeakL.pure ⟨rfl,rfl⟩)))
     clear hfl hrd
     have hno:((b.inr && innerA c c.ps[m]) || (decide ((4294967042:Int) ∈ b.a.cms) || (decide ((4294967041:Int) ∈ b.a.cms) && !innerA c c.ps[m])))=true→toldA c m q b=(zeroAt,false):=fun h=>by rw [hA,if_neg (fun x=>by rw [h] at x;cases x.2.2)]
     have hyes:((b.inr && innerA c c.ps[m]) || (decide ((4294967042:Int) ∈ b.a.cms) || (decide ((4294967041:Int) ∈ b.a.cms) && !innerA c c.ps[m])))=false→tailT c c.ps[m] q (startT c c.ps[m] b.a)=toldA c m q b:=fun h=>by rw [hA,if_pos ⟨hq,har,h⟩]
     have q1:=c82 b.a.cms hb.2.2 4294967042
     have q2:=c82 b.a.cms hb.2.2 4294967041
     have fin:=fun (h:((b.inr && innerA c c.ps[m]) || (decide ((4294967042:Int) ∈ b.a.cms) || (decide ((4294967041:Int) ∈ b.a.cms) && !innerA c c.ps[m])))=false) (E:List (Nat×AV)) (nn:Env→Store→Prop) (xx:Nat→Env→Store→Prop)=>z8d (n:=nn) (rr:=fun e τ => @EndQ e τ ⟨Ts31.F42.slots,fun r s=>s=σ∧r = .tup [.agg (toldA c m q b).1.c,.bool (toldA c m q b).2]⟩) (xx:=xx) b hb har hm hfk hr T4 T6 T7 T8 sT h8 E (hT (hyes h)) (hF (hyes h))
     simp only [T4,c7,f0,f3,hp,hp',hrT,↓vcPre,↓z0,↓reduceIte,vcPost,vcStd,Nat.reduceEqDiff,reduceCtorEq,Nat.reduceAdd,Nat.reduceLeDiff,Int.reduceLT,Int.reduceLE,↓u_setN]
     clear hA hHid hT hF
     generalize decide ((4294967042:Int) ∈ b.a.cms)=d1 at q1 hno hyes fin
     generalize decide ((4294967041:Int) ∈ b.a.cms)=d2 at q2 hno hyes fin
     have hbx:List.take 1 (List.drop 3 b.c)=[.bool b.inr]:=rfl
     by_cases hyc:c.ps[m].asn=c.asn
     ·have hi:innerA c c.ps[m]=true:=by simp [innerA,hyc]
      have hdt:(decide (c.ps[m].asn=c.asn))=true:=by simpa using hyc
      rw [hi] at hno hyes fin
      cases hbi:b.inr
      ·rw [hbi] at hno hyes fin hbx
       simp only [hbx,hyc,b12,↓vcPre,↓z0,↓reduceIte,vcPost,vcStd,Nat.reduceEqDiff,reduceCtorEq,Nat.reduceAdd,Nat.reduceLeDiff,Int.reduceLT,Int.reduceLE,↓u_setN]
       refine q1.Q ?_
       cases d1
       ·simp only [T7,b13,b12,↓vcPre,↓z0,↓reduceIte,vcPost,vcStd,Nat.reduceEqDiff,reduceCtorEq,Nat.reduceAdd,Nat.reduceLeDiff,Int.reduceLT,Int.reduceLE,↓u_setN]
        refine q2.Q ?_
        cases d2
        ·simp only [↓vcPre,↓z0,↓reduceIte,vcPost,vcStd,Nat.reduceEqDiff,reduceCtorEq,Nat.reduceAdd,Nat.reduceLeDiff,Int.reduceLT,Int.reduceLE,↓u_setN]
         first | exact fin rfl _ _ _ | (rw [hdt];exact fin rfl _ _ _)
        ·simp only [hyc,↓vcPre,↓z0,↓reduceIte,vcPost,vcStd,Nat.reduceEqDiff,reduceCtorEq,Nat.reduceAdd,Nat.reduceLeDiff,Int.reduceLT,Int.reduceLE,↓u_setN]
         first | exact fin rfl _ _ _ | (rw [hdt];exact fin rfl _ _ _)
       ·simp only [T8,hzz,z9,↓vcPre,↓z0,↓reduceIte,vcPost,vcStd,Nat.reduceEqDiff,reduceCtorEq,Nat.reduceAdd,Nat.reduceLeDiff,Int.reduceLT,Int.reduceLE,↓u_setN]
        exact no (hno rfl)
      ·rw [hbi] at hno hyes fin hbx
       simp only [hbx,hyc,b12,T8,hzz,z9,↓vcPre,↓z0,↓reduceIte,vcPost,vcStd,Nat.reduceEqDiff,reduceCtorEq,Nat.reduceAdd,Nat.reduceLeDiff,Int.reduceLT,Int.reduceLE,↓u_setN]
       exact no (hno rfl)
     ·have hi:innerA c c.ps[m]=false:=by simp [innerA,hyc]
      have hdf:decide (c.ps[m].asn=c.asn)=false:=by simpa using hyc
      rw [hi] at hno hyes fin
      cases hbi:b.inr
      ·rw [hbi] at hno hyes fin hbx
       simp only [hbx,hdf,b12,↓vcPre,↓z0,↓reduceIte,vcPost,vcStd,Nat.reduceEqDiff,reduceCtorEq,Nat.reduceAdd,Nat.reduceLeDiff,Int.reduceLT,Int.reduceLE,↓u_setN]
       refine q1.Q ?_
       cases d1
       ·simp only [T7,b13,b12,↓vcPre,↓z0,↓reduceIte,vcPost,vcStd,Nat.reduceEqDiff,reduceCtorEq,Nat.reduceAdd,Nat.reduceLeDiff,Int.reduceLT,Int.reduceLE,↓u_setN]
        refine q2.Q ?_
        cases d2
        ·simp only [↓vcPre,↓z0,↓reduceIte,vcPost,vcStd,Nat.reduceEqDiff,reduceCtorEq,Nat.reduceAdd,Nat.reduceLeDiff,Int.reduceLT,Int.reduceLE,↓u_setN]
         first | exact fin rfl _ _ _ | (rw [hdf];exact fin rfl _ _ _)
        ·simp only [hdf,T8,hzz,z9,↓vcPre,↓z0,↓reduceIte,vcPost,vcStd,Nat.reduceEqDiff,reduceCtorEq,Nat.reduceAdd,Nat.reduceLeDiff,Int.reduceLT,Int.reduceLE,↓u_setN]
         exact no (hno rfl)
       ·simp only [T8,hzz,z9,↓vcPre,↓z0,↓reduceIte,vcPost,vcStd,Nat.reduceEqDiff,reduceCtorEq,Nat.reduceAdd,Nat.reduceLeDiff,Int.reduceLT,Int.reduceLE,↓u_setN]
        exact no (hno rfl)
      ·rw [hbi] at hno hyes fin hbx
       simp only [hbx,b12,↓vcPre,↓z0,↓reduceIte,vcPost,vcStd,Nat.reduceEqDiff,reduceCtorEq,Nat.reduceAdd,Nat.reduceLeDiff,Int.reduceLT,Int.reduceLE,↓u_setN]
       refine ⟨fun _ => ?_,fun h=>absurd h hyc⟩
       refine q1.Q ?_
       cases d1
       ·simp only [T7,b13,b12,↓vcPre,↓z0,↓reduceIte,vcPost,vcStd,Nat.reduceEqDiff,reduceCtorEq,Nat.reduceAdd,Nat.reduceLeDiff,Int.reduceLT,Int.reduceLE,↓u_setN]
        refine q2.Q ?_
        cases d2
        ·simp only [↓vcPre,↓z0,↓reduceIte,vcPost,vcStd,Nat.reduceEqDiff,reduceCtorEq,Nat.reduceAdd,Nat.reduceLeDiff,Int.reduceLT,Int.reduceLE,↓u_setN]
         first | exact fin rfl _ _ _ | (rw [hdf];exact fin rfl _ _ _)
        ·simp only [hdf,T8,hzz,z9,↓vcPre,↓z0,↓reduceIte,vcPost,vcStd,Nat.reduceEqDiff,reduceCtorEq,Nat.reduceAdd,Nat.reduceLeDiff,Int.reduceLT,Int.reduceLE,↓u_setN]
         exact no (hno rfl)
       ·simp only [T8,hzz,z9,↓vcPre,↓z0,↓reduceIte,vcPost,vcStd,Nat.reduceEqDiff,reduceCtorEq,Nat.reduceAdd,Nat.reduceLeDiff,Int.reduceLT,Int.reduceLE,↓u_setN]
        exact no (hno rfl)
   ·rw [show decide (atRight b.a)=false by simpa using har]
    simp only [T8,hzz,z9,↓vcPre,↓z0,↓reduceIte,vcPost,vcStd,Nat.reduceEqDiff,reduceCtorEq,Nat.reduceAdd,Nat.reduceLeDiff,Int.reduceLT,Int.reduceLE,↓u_setN]
    exact no (by rw [hA,if_neg (fun h=>har h.2.1)])
 ·refine no ?_
  unfold toldA
  by_cases hx:chkA c=0∧0≤k
  ·rw [if_pos hx,List.getElem?_eq_none (by omega)]
  ·rw [if_neg hx]
end Go.Am
namespace Go.Am
open Go.Proofs Go.Sort
theorem qn:zeroAt.ok:=⟨by decide,(fun s hs=>by cases hs),by decide⟩
theorem z8i (c:Cfg) (k:Int) (q:Int×Int) (b:PathR) (hb:b.a.ok):(toldA c k q b).1.ok:=by
 unfold toldA
 split
 ·split
  ·exact qn
  ·rename_i p _
   split
   ·rename_i h
    have har:=h.2.1
    have hcan:(canonA b.a).ok:=y0 hb
    have hcp:(canonA b.a).path.length≤16:=har.2.1.2
    have hcc:(canonA b.a).cms.length≤32:=by have:=x5 b.a.cms;have:=har.2.2.2.2.2.1;simp only [canonA];omega
    have hS:(startT c p b.a).ok∧(startT c p b.a).path.length≤900000∧(startT c p b.a).cms.length≤900000:=by
     unfold startT
     split
     ·exact ⟨hcan,by simp only;omega,by simp only;omega⟩
     ·have h16:=xn c.asn 1 (canonA b.a).path
      exact ⟨⟨by simp only;omega,wo c.asn 1 _ hcan.2.1,hcan.2.2⟩,by simp only;omega,by simp only;omega⟩
    have hap:=up (rs:=p.out) (x:=c.asn) (q:=q) hS.1 hS.2.1 hS.2.2
    unfold tailT
    split
    ·show (lastT c p _).ok
     unfold lastT;split <;> exact hap
    ·exact qn
   ·exact qn
 ·exact qn
theorem s15 {σ:Store} (c:Cfg) (hf:∀ p ∈ c.ps,p.fit) (k:Int) (q:Int×Int) (b:PathR) (hb:b.a.ok) {lv:AV} (hr:Rd 4 σ (c.ps.map Peer.c) lv) :
 ACalls Tryz.prog 15 [.agg (c.cV lv),.int .i64 k,.agg [.int .u32 q.1,.int .i64 q.2],.agg b.c] σ (fun r s=>s=σ∧r = .bool true):=by
 refine zi Tst.F15 (by simp [Tst.F15,Fn.mkX]) ?_
 simp only [Tst.F15,Fn.mkX,Tst.b15,yi]
 have e9:∀ y:At,y.c.length=9:=fun _=>rfl
 have t9:∀ y:At,List.take 9 y.c=y.c:=fun _=>rfl
 have hz:∀ y:At,splice 0 y.c zCells=some y.c:=fun _=>rfl
 have c7:∀ v,(c.cV v).length=7:=fun _=>rfl
 have t7:∀ v,List.take 7 (c.cV v)=c.cV v:=fun _=>rfl
 have b13:b.c.length=13:=rfl
 have t13:List.take 13 b.c=b.c:=rfl
 simp only [↓vcPre,↓z0,↓reduceIte,vcPost,vcStd,Nat.reduceEqDiff,reduceCtorEq,Nat.reduceAdd,Nat.reduceLeDiff,Int.reduceLT,Int.reduceLE,↓u_setN]
 refine AllocQ.i0 fun p4 h4 => ?_
 simp only [↓vcPre,↓z0,↓reduceIte,vcPost,vcStd,Nat.reduceEqDiff,reduceCtorEq,Nat.reduceAdd,Nat.reduceLeDiff,Int.reduceLT,Int.reduceLE,↓u_setN]
 refine AllocQ.i1 fun p6 h64 h46 h6 => ?_
 simp only [↓vcPre,↓z0,↓reduceIte,vcPost,vcStd,Nat.reduceEqDiff,reduceCtorEq,Nat.reduceAdd,Nat.reduceLeDiff,Int.reduceLT,Int.reduceLE,↓u_setN]
 refine AllocQ.i2 fun p7 h74 h47 h76 h67 h7 => ?_
 have sT:Store.sub σ (((σ.set p4 (.box (c.cV lv))).set p6 (.box [.int .u32 q.1,.int .i64 q.2])).set p7 (.box b.c)):=za (zn h4 h6 h64) h7
 have T7:=Store.set_same ((σ.set p4 (.box (c.cV lv))).set p6 (.box [.int .u32 q.1,.int .i64 q.2])) p7 (.box b.c)
 have T6:(((σ.set p4 (.box (c.cV lv))).set p6 (.box [.int .u32 q.1,.int .i64 q.2])).set p7 (.box b.c)) p6=some (.box [.int .u32 q.1,.int .i64 q.2]):=by rw [Store.set_ne _ _ h67];exact Store.set_same _ _ _
 have T4:(((σ.set p4 (.box (c.cV lv))).set p6 (.box [.int .u32 q.1,.int .i64 q.2])).set p7 (.box b.c)) p4=some (.box (c.cV lv)):=by rw [Store.set_ne _ _ h47,Store.set_ne _ _ h46];exact Store.set_same _ _ _
 generalize (((σ.set p4 (.box (c.cV lv))).set p6 (.box [.int .u32 q.1,.int .i64 q.2])).set p7 (.box b.c))=T at sT T4 T6 T7 ⊢
 have hok:=z8i c k q b hb
 have h1:=s41 (σ:=T) c hf k q b hb (hr.mono sT)
 have h2:=fun (U:Store) (hU:Store.sub σ U)=>s42 (σ:=U) c hf k q b hb (hr.mono hU)
 generalize toldA c k q b=R at hok h1 h2
 simp only [T4,T6,T7,c7,t7,b13,t13,↓vcPre,↓z0,↓reduceIte,vcPost,vcStd,Nat.reduceEqDiff,reduceCtorEq,Nat.reduceAdd,Nat.reduceLeDiff,Int.reduceLT,Int.reduceLE,↓u_setN]
 refine h1.Q ?_
 rintro v T ⟨rfl,rfl⟩
 simp only [↓vcPre,↓z0,↓reduceIte,vcPost,vcStd,Nat.reduceEqDiff,reduceCtorEq,Nat.reduceAdd,Nat.reduceLeDiff,Int.reduceLT,Int.reduceLE,↓u_setN]
 refine AllocQ.i0 fun p9 h9 => ?_
 simp only [hz,e9,↓vcPre,↓z0,↓reduceIte,vcPost,vcStd,Nat.reduceEqDiff,reduceCtorEq,Nat.reduceAdd,Nat.reduceLeDiff,Int.reduceLT,Int.reduceLE,↓u_setN]
 have sU:Store.sub T ((T.set p9 (.box zCells)).set p9 (.box R.1.c)):=za (Store.sub_set _ _ _ h9) h9
 have U9:=Store.set_same (T.set p9 (.box zCells)) p9 (.box R.1.c)
 generalize (T.set p9 (.box zCells)).set p9 (.box R.1.c)=U at sU U9 ⊢
 have U4:=sU _ _ T4
 have U6:=sU _ _ T6
 have U7:=sU _ _ T7
 have sU2:=Store.sub_trans sT sU
 simp only [U4,U6,U7,c7,t7,b13,t13,↓vcPre,↓z0,↓reduceIte,vcPost,vcStd,Nat.reduceEqDiff,reduceCtorEq,Nat.reduceAdd,Nat.reduceLeDiff,Int.reduceLT,Int.reduceLE,↓u_setN]
 refine (h2 U sU2).Q ?_
 rintro v U ⟨rfl,rfl⟩
 simp only [↓vcPre,↓z0,↓reduceIte,vcPost,vcStd,Nat.reduceEqDiff,reduceCtorEq,Nat.reduceAdd,Nat.reduceLeDiff,Int.reduceLT,Int.reduceLE,↓u_setN]
 refine AllocQ.i0 fun p11 h11 => ?_
 simp only [hz,e9,↓vcPre,↓z0,↓reduceIte,vcPost,vcStd,Nat.reduceEqDiff,reduceCtorEq,Nat.reduceAdd,Nat.reduceLeDiff,Int.reduceLT,Int.reduceLE,↓u_setN]
 have sV:Store.sub U ((U.set p11 (.box zCells)).set p11 (.box R.1.c)):=za (Store.sub_set _ _ _ h11) h11
 have V11:=Store.set_same (U.set p11 (.box zCells)) p11 (.box R.1.c)
 generalize (U.set p11 (.box zCells)).set p11 (.box R.1.c)=V at sV V11 ⊢
 have V9:=sV _ _ U9
 simp only [V9,V11,e9,t9,↓vcPre,↓z0,↓reduceIte,vcPost,vcStd,Nat.reduceEqDiff,reduceCtorEq,Nat.reduceAdd,Nat.reduceLeDiff,Int.reduceLT,Int.reduceLE,↓u_setN]
 refine (c43 R.1 R.1 hok hok).Q ?_
 rw [decide_eq_true rfl]
 simp only [↓vcPre,↓z0,↓reduceIte,vcPost,vcStd,Nat.reduceEqDiff,reduceCtorEq,Nat.reduceAdd,Nat.reduceLeDiff,Int.reduceLT,Int.reduceLE,↓u_setN]
 exact EndQ.to σ _ rfl (Store.sub_trans sU2 sV) ⟨rfl,by simp⟩
end Go.Am
namespace Go.Am.Ts32
open Go.Proofs Go.Am.B
def t4_15:BC := .seq (z [j 15 (-1)] [1,5,7,8,11,12,13,15] (.block 0 (.loop [1,5,7,8,11,12,13,15] (.seq (z [m 84 15,c 85 .lss 84 5] [1,5,7,8,11,12,13,15,85] (.cond (.t 85) .skip (.exit 0))) (.seq (.block 1 (z [⟨some 88,none,.load (.ld 7 true),[.t 11]⟩,m 89 15,⟨some 90,none,.load (.ld 2 true),[.t 12]⟩,⟨some 91,none,.load (.ld 13 true),[.t 13]⟩,g 92 15 [.t 88,.t 89,.t 90,.t 91],u 93 .not 92,m 94 93,⟨some 95,some (94,false),.load (.ld 7 true),[.t 11]⟩,⟨some 96,some (94,false),.pure (.mov),[.t 15]⟩,⟨some 97,some (94,false),.load (.ld 2 true),[.t 7]⟩,⟨some 98,some (94,false),.load (.ld 13 true),[.t 8]⟩,⟨some 99,some (94,false),.loud (.call 15),[.t 95,.t 96,.t 97,.t 98]⟩,⟨some 100,some (94,false),.pure (.not),[.t 99]⟩,⟨some 101,none,.pick,[.t 94,.c (.bool true),.t 100]⟩] [1,5,7,8,11,12,13,15,101] (.cond (.t 101) (z [k 10 (.bool false)] [10] .ret) .skip))) (.ops [m 86 15,c 87 .add 86 1,m 15 87] [1,5,7,8,11,12,13,15])))))) (z [⟨some 102,none,.load (.ld 7 true),[.t 5]⟩,m 103 1,⟨some 104,none,.load (.ld 2 true),[.t 7]⟩,⟨some 105,none,.load (.ld 13 true),[.t 8]⟩,g 106 15 [.t 102,.t 103,.t 104,.t 105],m 107 106,⟨some 108,some (107,true),.loud (.call 17),[]⟩,⟨some 109,none,.pick,[.t 107,.t 108,.c (.bool false)]⟩,m 10 109] [10] .ret)
def t4_73:BC := .seq (z [⟨some 73,none,.load (.ld 13 true),[.t 8]⟩,⟨some 74,none,.load (.ld 13 true),[.t 9]⟩,g 75 16 [.t 73,.t 74],m 76 14,p 77 (.eqb true) [.t 75,.t 76],m 78 77,⟨some 79,some (78,false),.load (.ld 13 true),[.t 8]⟩,⟨some 80,some (78,false),.load (.ld 13 true),[.t 8]⟩,⟨some 81,some (78,false),.loud (.call 16),[.t 79,.t 80]⟩,⟨some 82,some (78,false),.pure (.not),[.t 81]⟩,⟨some 83,none,.pick,[.t 78,.c (.bool true),.t 82]⟩] [1,5,7,8,11,12,13,83] (.cond (.t 83) (z [k 10 (.bool false)] [10] .ret) .skip)) t4_15
def t4_31:BC:=z [⟨some 31,none,.load (.ld 13 true),[.t 8]⟩,⟨some 13,none,.alloc (.alloc [(.int .i64 0),(.int .u32 0),(.int .u32 0),(.bool false),(.int .i64 0),.nils,(.int .u32 0),(.bool false),(.int .u32 0),(.bool false),(.int .u32 0),(.bool false),.nils]),[]⟩,s 13 13 31] [1,5,7,8,9,11,12,13] (z [f 32 4 8,⟨some 33,none,.load (.ld 9 true),[.t 32]⟩,g 34 14 [.t 33,.c (.int .u32 65001)],f 35 4 13,s 9 35 34] [1,5,7,8,9,11,12,13] (z [f 36 0 8,l 37 1 36,c 38 .rem 37 4,f 39 0 13,s 1 39 38] [1,5,7,8,9,11,12,13] (z [f 40 0 8,l 41 1 40,f 42 0 9,l 43 1 42,b 44 .eql 41 43,m 45 44,⟨some 46,some (45,true),.pure (.fld 1),[.t 8]⟩,⟨some 47,some (45,true),.load (.ld 1 false),[.t 46]⟩,⟨some 48,some (45,true),.pure (.fld 1),[.t 9]⟩,⟨some 49,some (45,true),.load (.ld 1 false),[.t 48]⟩,⟨some 50,some (45,true),.pure (.bin .eql),[.t 47,.t 49]⟩,⟨some 51,none,.pick,[.t 45,.t 50,.c (.bool false)]⟩,m 52 51,⟨some 53,some (52,true),.pure (.fld 2),[.t 8]⟩,⟨some 54,some (52,true),.load (.ld 1 false),[.t 53]⟩,⟨some 55,some (52,true),.pure (.fld 2),[.t 9]⟩,⟨some 56,some (52,true),.load (.ld 1 false),[.t 55]⟩,⟨some 57,some (52,true),.pure (.bin .eql),[.t 54,.t 56]⟩,⟨some 58,none,.pick,[.t 52,.t 57,.c (.bool false)]⟩,m 59 58,⟨some 60,some (59,true),.pure (.fld 3),[.t 8]⟩,⟨some 61,some (59,true),.load (.ld 1 false),[.t 60]⟩,⟨some 62,some (59,true),.pure (.fld 3),[.t 9]⟩,⟨some 63,some (59,true),.load (.ld 1 false),[.t 62]⟩,⟨some 64,some (59,true),.pure (.eqb false),[.t 61,.t 63]⟩,⟨some 65,none,.pick,[.t 59,.t 64,.c (.bool false)]⟩,m 66 65,⟨some 67,some (66,true),.pure (.fld 4),[.t 8]⟩,⟨some 68,some (66,true),.load (.ld 9 true),[.t 67]⟩,⟨some 69,some (66,true),.pure (.fld 4),[.t 9]⟩,⟨some 70,some (66,true),.load (.ld 9 true),[.t 69]⟩,⟨some 71,some (66,true),.loud (.call 20),[.t 68,.t 70]⟩,⟨some 72,none,.pick,[.t 66,.t 71,.c (.bool false)]⟩,m 14 72] [1,5,7,8,9,11,12,13,14] t4_73)))
def b4:BC:=z [⟨some 5,none,.alloc (.box),[.t 0]⟩,⟨some 7,none,.alloc (.box),[.t 2]⟩,⟨some 8,none,.alloc (.box),[.t 3]⟩,⟨some 9,none,.alloc (.box),[.t 4]⟩,k 10 (.bool false)] [1,5,7,8,9] (z [⟨some 16,none,.load (.ld 7 true),[.t 5]⟩,g 17 13 [.t 16],⟨some 11,none,.alloc (.alloc [(.int .u32 0),(.int .u32 0),(.int .i64 0),.nils,(.int .i64 0),(.int .i64 0),(.int .i64 0)]),[]⟩,s 7 11 17] [1,5,7,8,9,11] (z [f 18 4 8,⟨some 19,none,.load (.ld 9 true),[.t 18]⟩,g 20 18 [.t 19],f 21 4 8,s 9 21 20] [1,5,7,8,9,11] (z [f 22 4 9,⟨some 23,none,.load (.ld 9 true),[.t 22]⟩,g 24 18 [.t 23],f 25 4 9,s 9 25 24] [1,5,7,8,9,11] (z [f 26 0 7,l 27 1 26,f 28 1 7,l 29 1 28,g 30 19 [.t 27,.t 29],⟨some 12,none,.alloc (.alloc [(.int .u32 0),(.int .i64 0)]),[]⟩,s 2 12 30] [1,5,7,8,9,11,12] t4_31))))
def F4:Fn Tryz.prog 4:=Fn.mkX false b4 [.t 10] 110 Tryz.f4 _ Tryz.func4 (by decide) rfl Tryz.ntmps4 (by kernel_rfl) (by kernel_rfl)
end Go.Am.Ts32
namespace Go.Am
open Go.Proofs Go.Sort
section
variable {c d:Cfg} {σ:Store} {n rr:Env→Store→Prop} {xx:Nat→Env→Store→Prop} {p5 p7 p8 p9 p11 p12 p13 g:Nat} {k:Int} {p q:Int×Int} {lv:AV}
theorem z6j {T:Store} (hc:∀ p ∈ c.ps,p.fit) (hd:∀ p ∈ d.ps,p.fit) (b t:PathR) (hb:b.a.ok) (ht:t.a.ok) (hs:Store.sub σ T) (hl:Rd 4 σ (c.ps.map Peer.c) lv)
 (T5:T p5=some (.box (c.cV lv))) (T7:T p7=some (.box [.int .u32 p.1,.int .i64 p.2])) (T8:T p8=some (.box b.c)) (T11:T p11=some (.box (d.cV (.os g 4 0 d.ps.length)))) (Tg:T g=some (.arr 4 (d.ps.map Peer.c)))
 (T12:T p12=some (.box [.int .u32 q.1,.int .i64 q.2])) (T13:T p13=some (.box t.c)) (E:List (Nat×AV)) (h:rr [(10,.bool true)] T) :
 bwp Tryz.prog Ts32.t4_15 ((1,.int .i64 k)::(5,.ptr p5 0)::(7,.ptr p7 0)::(8,.ptr p8 0)::(11,.ptr p11 0)::(12,.ptr p12 0)::(13,.ptr p13 0)::E) T n rr xx:=by
 simp only [Ts32.t4_15]
 have c7:∀ (c:Cfg) v,(c.cV v).length=7:=fun _ _=>rfl
 have t7:∀ (c:Cfg) v,List.take 7 (c.cV v)=c.cV v:=fun _ _=>rfl
 have b13:∀ b:PathR,b.c.length=13:=fun _=>rfl
 have t13:∀ b:PathR,List.take 13 b.c=b.c:=fun _=>rfl
 have hrd:Rd 4 T (d.ps.map Peer.c) (.os g 4 0 d.ps.length):=by
  have:=Rd.os (esz:=4) Tg
  rwa [List.length_map] at this
 simp only [↓vcPre,↓z0,↓reduceIte,vcPost,vcStd,Nat.reduceEqDiff,reduceCtorEq,Nat.reduceAdd,Nat.reduceLeDiff,Int.reduceLT,Int.reduceLE,↓u_setN]
 refine LoopQ.inv (S:=Nat) (fun m=>[(1,.int .i64 k),(5,.ptr p5 0),(7,.ptr p7 0),(8,.ptr p8 0),(11,.ptr p11 0),(12,.ptr p12 0),(13,.ptr p13 0),(15,.int .i64 ((m:Int) - 1))]) (fun _=>T) (fun m=>m≤6) (fun m=>7 - m) 0 rfl (Store.sub_refl _) (by omega) ?_
 intro m hm
 simp only [↓vcPre,↓z0,↓reduceIte,vcPost,vcStd,Nat.reduceEqDiff,reduceCtorEq,Nat.reduceAdd,Nat.reduceLeDiff,Int.reduceLT,Int.reduceLE,↓u_setN]
 refine ⟨fun c1 => ?_,fun c1 => ?_⟩
 ·have ek:IntKind.i64.wrap ((m:Int) - 1+1)=((m+1:Nat):Int) - 1:=by rw [zd (by unfold I64;omega)];omega
  simp only [T11,T12,T13,c7,t7,b13,t13,↓vcPre,↓z0,↓reduceIte,vcPost,vcStd,Nat.reduceEqDiff,reduceCtorEq,Nat.reduceAdd,Nat.reduceLeDiff,Int.reduceLT,Int.reduceLE,↓u_setN]
  refine (s15 d hd ((m:Int) - 1) q t ht hrd).Q ?_
  rintro v T ⟨rfl,rfl⟩
  simp only [T11,T7,T8,c7,t7,b13,t13,↓vcPre,↓z0,↓reduceIte,vcPost,vcStd,Nat.reduceEqDiff,reduceCtorEq,Nat.reduceAdd,Nat.reduceLeDiff,Int.reduceLT,Int.reduceLE,↓u_setN]
  refine (s15 d hd ((m:Int) - 1) p b hb hrd).Q ?_
  rintro v T ⟨rfl,rfl⟩
  simp only [ek,↓vcPre,↓z0,↓reduceIte,vcPost,vcStd,Nat.reduceEqDiff,reduceCtorEq,Nat.reduceAdd,Nat.reduceLeDiff,Int.reduceLT,Int.reduceLE,↓u_setN]
  exact NextQ.to (m+1) rfl (Store.sub_refl _) (by omega) (by omega)
 ·simp only [T5,T7,T8,c7,t7,b13,t13,↓vcPre,↓z0,↓reduceIte,vcPost,vcStd,Nat.reduceEqDiff,reduceCtorEq,Nat.reduceAdd,Nat.reduceLeDiff,Int.reduceLT,Int.reduceLE,↓u_setN]
  refine (s15 c hc k p b hb (hl.mono hs)).Q ?_
  rintro v T ⟨rfl,rfl⟩
  simp only [↓vcPre,↓z0,↓reduceIte,vcPost,vcStd,Nat.reduceEqDiff,reduceCtorEq,Nat.reduceAdd,Nat.reduceLeDiff,Int.reduceLT,Int.reduceLE,↓u_setN]
  refine (c17).Q ?_
  simp only [↓vcPre,↓z0,↓reduceIte,vcPost,vcStd,Nat.reduceEqDiff,reduceCtorEq,Nat.reduceAdd,Nat.reduceLeDiff,Int.reduceLT,Int.reduceLE,↓u_setN]
  exact h
theorem z6l {T:Store} (hc:∀ p ∈ c.ps,p.fit) (hd:∀ p ∈ d.ps,p.fit) (b t z:PathR) (hb:b.a.ok) (ht:t.a.ok) (hz:z.a.ok) (hs:Store.sub σ T) (hl:Rd 4 σ (c.ps.map Peer.c) lv)
 (T5:T p5=some (.box (c.cV lv))) (T7:T p7=some (.box [.int .u32 p.1,.int .i64 p.2])) (T8:T p8=some (.box b.c)) (T9:T p9=some (.box z.c)) (T11:T p11=some (.box (d.cV (.os g 4 0 d.ps.length)))) (Tg:T g=some (.arr 4 (d.ps.map Peer.c)))
 (T12:T p12=some (.box [.int .u32 q.1,.int .i64 q.2])) (T13:T p13=some (.box t.c)) (w:Bool) (hw:w=sameR b z) (E:List (Nat×AV)) (h:rr [(10,.bool true)] T) :
 bwp Tryz.prog Ts32.t4_73 ((1,.int .i64 k)::(5,.ptr p5 0)::(7,.ptr p7 0)::(8,.ptr p8 0)::(9,.ptr p9 0)::(11,.ptr p11 0)::(12,.ptr p12 0)::(13,.ptr p13 0)::(14,.bool w)::E) T n rr xx:=by
 subst hw
 simp only [Ts32.t4_73]
 have b13:∀ b:PathR,b.c.length=13:=fun _=>rfl
 have t13:∀ b:PathR,List.take 13 b.c=b.c:=fun _=>rfl
 simp only [T8,T9,b13,t13,↓vcPre,↓z0,↓reduceIte,vcPost,vcStd,Nat.reduceEqDiff,reduceCtorEq,Nat.reduceAdd,Nat.reduceLeDiff,Int.reduceLT,Int.reduceLE,↓u_setN]
 refine (c16 b z hb hz).Q ?_
 have hbb:=c16 b b hb hb
 rw [show sameR b b=true by simp [sameR]] at hbb
 cases sameR b z
 all_goals
  simp only [T8,b13,t13,show (false != false)=false from rfl,show (true != true)=false from rfl,↓vcPre,↓z0,↓reduceIte,vcPost,vcStd,Nat.reduceEqDiff,reduceCtorEq,Nat.reduceAdd,Nat.reduceLeDiff,Int.reduceLT,Int.reduceLE,↓u_setN]
  refine hbb.Q ?_
  simp only [↓vcPre,↓z0,↓reduceIte,vcPost,vcStd,Nat.reduceEqDiff,reduceCtorEq,Nat.reduceAdd,Nat.reduceLeDiff,Int.reduceLT,Int.reduceLE,↓u_setN]
  exact z6j hc hd b t hb ht hs hl T5 T7 T8 T11 Tg T12 T13 _ h
set_option maxRecDepth 20000 in
set_option maxHeartbeats 1000000 in
theorem z6k {T:Store} (hc:∀ p ∈ c.ps,p.fit) (hd:∀ p ∈ d.ps,p.fit) (b z:PathR) (hb:b.a.ok) (hz:z.a.ok) (hbo:I64 b.a.org) (hbn:0≤b.a.nxt) (hbp:I64 b.peer) (hs:Store.sub σ T) (hl:Rd 4 σ (c.ps.map Peer.c) lv)
 (T5:T p5=some (.box (c.cV lv))) (T7:T p7=some (.box [.int .u32 p.1,.int .i64 p.2])) (T8:T p8=some (.box b.c)) (T9:T p9=some (.box z.c)) (T11:T p11=some (.box (d.cV (.os g 4 0 d.ps.length)))) (Tg:T g=some (.arr 4 (d.ps.map Peer.c)))
 (T12:T p12=some (.box [.int .u32 q.1,.int .i64 q.2])) (E:List (Nat×AV)) (h:∀ t',Store.sub σ t'→rr [(10,.bool true)] t') :
 bwp Tryz.prog Ts32.t4_31 ((1,.int .i64 k)::(5,.ptr p5 0)::(7,.ptr p7 0)::(8,.ptr p8 0)::(9,.ptr p9 0)::(11,.ptr p11 0)::(12,.ptr p12 0)::E) T n rr xx:=by
 simp only [Ts32.t4_31]
 have b13:∀ b:PathR,b.c.length=13:=fun _=>rfl
 have t13:∀ b:PathR,List.take 13 b.c=b.c:=fun _=>rfl
 have z13:∀ b:PathR,splice 0 b.c [AV.int .i64 0,.int .u32 0,.int .u32 0,.bool false,.int .i64 0,.nils,.int .u32 0,.bool false,.int .u32 0,.bool false,.int .u32 0,.bool false,.nils]=some b.c:=fun _=>rfl
 have b0:∀ b:PathR,List.take 1 b.c=[.int .i64 b.peer]:=fun _=>rfl
 have b1:∀ b:PathR,List.take 1 (List.drop 1 b.c)=[.int .u32 b.id]:=fun _=>rfl
 have b2:∀ b:PathR,List.take 1 (List.drop 2 b.c)=[.int .u32 b.addr]:=fun _=>rfl
 have b3:∀ b:PathR,List.take 1 (List.drop 3 b.c)=[.bool b.inr]:=fun _=>rfl
 have b4:∀ b:PathR,List.take 9 (List.drop 4 b.c)=b.a.c:=fun _=>rfl
 have s4:∀ (b:PathR) (a:At),splice 4 a.c b.c=some ({ b with a:=a }:PathR).c:=fun _ _=>rfl
 have s0:∀ (b:PathR) (x:Int),splice 0 [.int .i64 x] b.c=some ({ b with peer:=x }:PathR).c:=fun _ _=>rfl
 simp only [T8,b13,t13,↓vcPre,↓z0,↓reduceIte,vcPost,vcStd,Nat.reduceEqDiff,reduceCtorEq,Nat.reduceAdd,Nat.reduceLeDiff,Int.reduceLT,Int.reduceLE,↓u_setN]
 refine AllocQ.i0 fun p13 h13 => ?_
 simp only [b13,z13,↓vcPre,↓z0,↓reduceIte,vcPost,vcStd,Nat.reduceEqDiff,reduceCtorEq,Nat.reduceAdd,Nat.reduceLeDiff,Int.reduceLT,Int.reduceLE,↓u_setN]
 have n8:¬ p8=p13:=fun e=>by subst e;rw [T8] at h13;cases h13
 have hσ:=zm hs h13
 have sU:Store.sub T ((T.set p13 (.box [AV.int .i64 0,.int .u32 0,.int .u32 0,.bool false,.int .i64 0,.nils,.int .u32 0,.bool false,.int .u32 0,.bool false,.int .u32 0,.bool false,.nils])).set p13 (.box b.c)):=za (Store.sub_set _ _ _ h13) h13
 have U13:=Store.set_same (T.set p13 (.box [AV.int .i64 0,.int .u32 0,.int .u32 0,.bool false,.int .i64 0,.nils,.int .u32 0,.bool false,.int .u32 0,.bool false,.int .u32 0,.bool false,.nils])) p13 (.box b.c)
 generalize (T.set p13 (.box [AV.int .i64 0,.int .u32 0,.int .u32 0,.bool false,.int .i64 0,.nils,.int .u32 0,.bool false,.int .u32 0,.bool false,.int .u32 0,.bool false,.nils])).set p13 (.box b.c)=U at sU U13 ⊢
 have hfr:∀ i o,T i=some o→(((U.set p13 (.box ({ b with a:=tameA b.a 65001 }:PathR).c)).set p13 (.box ({ b with a:=tameA b.a 65001,peer:=b.peer.tmod 4 }:PathR).c)):Store) i=some o:=fun i o hi=>by
  have ne:¬ i=p13:=fun e=>by subst e;rw [hi] at h13;cases h13
  rw [Store.set_ne _ _ ne,Store.set_ne _ _ ne]
  exact sU _ _ hi
 have U8:=sU _ _ T8
 have U9:=sU _ _ T9
 have n9:¬ p9=p13:=fun e=>by subst e;rw [T9] at h13;cases h13
 simp only [U8,b13,b4,↓vcPre,↓z0,↓reduceIte,vcPost,vcStd,Nat.reduceEqDiff,reduceCtorEq,Nat.reduceAdd,Nat.reduceLeDiff,Int.reduceLT,Int.reduceLE,↓u_setN]
 refine (c14 b.a hbo 65001).Q ?_
 simp only [U13,s4,b13,↓vcPre,↓z0,↓reduceIte,vcPost,vcStd,Nat.reduceEqDiff,reduceCtorEq,Nat.reduceAdd,Nat.reduceLeDiff,Int.reduceLT,Int.reduceLE,↓u_setN]
 simp only [n8,U8,b13,b0,↓vcPre,↓z0,↓reduceIte,vcPost,vcStd,Nat.reduceEqDiff,reduceCtorEq,Nat.reduceAdd,Nat.reduceLeDiff,Int.reduceLT,Int.reduceLE,↓u_setN]
 have e4:IntKind.i64.wrap (b.peer.tmod 4)=b.peer.tmod 4:=zd (by have h1:=Int.lt_tmod_of_pos b.peer (b:=4) (by omega);have h2:=Int.tmod_lt_of_pos b.peer (b:=4) (by omega);unfold I64;omega)
 simp only [e4,s0,b13,↓vcPre,↓z0,↓reduceIte,vcPost,vcStd,Nat.reduceEqDiff,reduceCtorEq,Nat.reduceAdd,Nat.reduceLeDiff,Int.reduceLT,Int.reduceLE,↓u_setN]
 simp only [n8,n9,U8,U9,b13,b0,b1,b2,b3,b4,↓vcPre,↓z0,↓reduceIte,vcPost,vcStd,Nat.reduceEqDiff,reduceCtorEq,Nat.reduceAdd,Nat.reduceLeDiff,Int.reduceLT,Int.reduceLE,↓u_setN]
 generalize hV:(U.set p13 (.box ({ b with a:=tameA b.a 65001 }:PathR).c)).set p13 (.box ({ b with a:=tameA b.a 65001,peer:=b.peer.tmod 4 }:PathR).c)=V at hfr ⊢
 have V13:V p13=some (.box ({ b with a:=tameA b.a 65001,peer:=b.peer.tmod 4 }:PathR).c):=by rw [←hV];exact Store.set_same _ _ _
 have sσV:Store.sub σ V:=Store.sub_trans hs (fun i o hi=>hfr i o hi)
 have hte:(tameA b.a 65001).ok:=(qb b.a 65001 hbn).aok
 have fin:=fun (w:Bool) (hw:w=sameR b z)=>z6l (n:=n) (rr:=rr) (xx:=xx) (k:=k) hc hd b { b with a:=tameA b.a 65001,peer:=b.peer.tmod 4 } z hb hte hz sσV hl (hfr _ _ T5) (hfr _ _ T7) (hfr _ _ T8) (hfr _ _ T9) (hfr _ _ T11) (hfr _ _ Tg) (hfr _ _ T12) V13 w hw [] (h _ sσV)
 refine ⟨rfl,by decide,fun c1=>⟨fun c2=>⟨fun c3 => ?_,fun c3 => ?_⟩,fun c2 => ?_⟩,fun c1 => ?_⟩
 ·by_cases c4:b.inr=z.inr
  ·rw [show (b.inr ==z.inr)=true by simpa using c4]
   simp only [↓vcPre,↓z0,↓reduceIte,vcPost,vcStd,Nat.reduceEqDiff,reduceCtorEq,Nat.reduceAdd,Nat.reduceLeDiff,Int.reduceLT,Int.reduceLE,↓u_setN]
   refine (c20 b.a z.a hb hz).Q ?_
   simp only [↓vcPre,↓z0,↓reduceIte,vcPost,vcStd,Nat.reduceEqDiff,reduceCtorEq,Nat.reduceAdd,Nat.reduceLeDiff,Int.reduceLT,Int.reduceLE,↓u_setN]
   exact fin _ (by unfold sameR;simp [c1,c2,c3,c4])
  ·rw [show (b.inr ==z.inr)=false by simpa using c4]
   simp only [↓vcPre,↓z0,↓reduceIte,vcPost,vcStd,Nat.reduceEqDiff,reduceCtorEq,Nat.reduceAdd,Nat.reduceLeDiff,Int.reduceLT,Int.reduceLE,↓u_setN]
   exact fin _ (by unfold sameR;simp [c4])
 ·exact fin _ (by unfold sameR;simp [c3])
 ·exact fin _ (by unfold sameR;simp [c2])
 ·exact fin _ (by unfold sameR;simp [c1])
end
set_option maxHeartbeats 1000000 in
set_option maxRecDepth 20000 in
theorem z4y (c:Cfg) (hc:c.Ok) (k:Int) (p:Int×Int) (hp:I64 p.2) (b z:PathR) (hb:I64 b.peer) (hbo:I64 b.a.org) (hbn:0≤b.a.nxt):Pur Tryz.prog 4 [.agg (c.cV (.sl 4 (c.ps.map Peer.c))),.int .i64 k,.agg [.int .u32 p.1,.int .i64 p.2],.agg b.c,.agg z.c] (.bool true):=by
 refine zo Ts32.F4 (by simp [Ts32.F4,Fn.mkX]) fun σ => ?_
 simp only [Ts32.F4,Fn.mkX,Ts32.b4,yi]
 have c7:∀ (c:Cfg) v,(c.cV v).length=7:=fun _ _=>rfl
 have t7:∀ (c:Cfg) v,List.take 7 (c.cV v)=c.cV v:=fun _ _=>rfl
 have b13:∀ b:PathR,b.c.length=13:=fun _=>rfl
 have b4:∀ b:PathR,List.take 9 (List.drop 4 b.c)=b.a.c:=fun _=>rfl
 have s4:∀ (b:PathR) (a:At),splice 4 a.c b.c=some ({ b with a:=a }:PathR).c:=fun _ _=>rfl
 simp only [↓vcPre,↓z0,↓reduceIte,vcPost,vcStd,Nat.reduceEqDiff,reduceCtorEq,Nat.reduceAdd,Nat.reduceLeDiff,Int.reduceLT,Int.reduceLE,↓u_setN]
 refine AllocQ.i0 fun p5 h5 => ?_
 simp only [↓vcPre,↓z0,↓reduceIte,vcPost,vcStd,Nat.reduceEqDiff,reduceCtorEq,Nat.reduceAdd,Nat.reduceLeDiff,Int.reduceLT,Int.reduceLE,↓u_setN]
 refine AllocQ.i1 fun p7 h75 h57 h7 => ?_
 simp only [↓vcPre,↓z0,↓reduceIte,vcPost,vcStd,Nat.reduceEqDiff,reduceCtorEq,Nat.reduceAdd,Nat.reduceLeDiff,Int.reduceLT,Int.reduceLE,↓u_setN]
 refine AllocQ.i2 fun p8 h85 h58 h87 h78 h8 => ?_
 have sT:Store.sub σ (((σ.set p5 (.box (c.cV (.sl 4 (c.ps.map Peer.c))))).set p7 (.box [.int .u32 p.1,.int .i64 p.2])).set p8 (.box b.c)):=za (zn h5 h7 h75) h8
 have T8:=Store.set_same ((σ.set p5 (.box (c.cV (.sl 4 (c.ps.map Peer.c))))).set p7 (.box [.int .u32 p.1,.int .i64 p.2])) p8 (.box b.c)
 have T7:(((σ.set p5 (.box (c.cV (.sl 4 (c.ps.map Peer.c))))).set p7 (.box [.int .u32 p.1,.int .i64 p.2])).set p8 (.box b.c)) p7=some (.box [.int .u32 p.1,.int .i64 p.2]):=by rw [Store.set_ne _ _ h78];exact Store.set_same _ _ _
 have T5:(((σ.set p5 (.box (c.cV (.sl 4 (c.ps.map Peer.c))))).set p7 (.box [.int .u32 p.1,.int .i64 p.2])).set p8 (.box b.c)) p5=some (.box (c.cV (.sl 4 (c.ps.map Peer.c)))):=by rw [Store.set_ne _ _ h58,Store.set_ne _ _ h57];exact Store.set_same _ _ _
 generalize ((σ.set p5 (.box (c.cV (.sl 4 (c.ps.map Peer.c))))).set p7 (.box [.int .u32 p.1,.int .i64 p.2])).set p8 (.box b.c)=T at sT T5 T7 T8 ⊢
 simp only [↓vcPre,↓z0,↓reduceIte,vcPost,vcStd,Nat.reduceEqDiff,reduceCtorEq,Nat.reduceAdd,Nat.reduceLeDiff,Int.reduceLT,Int.reduceLE,↓u_setN]
 refine AllocQ.i0 fun p9 h9 => ?_
 have n59:¬ p5=p9:=fun e=>by subst e;rw [T5] at h9;cases h9
 have n79:¬ p7=p9:=fun e=>by subst e;rw [T7] at h9;cases h9
 have n89:¬ p8=p9:=fun e=>by subst e;rw [T8] at h9;cases h9
 have hσ8:σ p8=none:=h8
 have hσ9:=zm sT h9
 have sU:=Store.sub_trans sT (Store.sub_set T p9 (.box z.c) h9)
 have U9:=Store.set_same T p9 (.box z.c)
 have U5:=(Store.set_ne T (.box z.c) n59).trans T5
 have U7:=(Store.set_ne T (.box z.c) n79).trans T7
 have U8:=(Store.set_ne T (.box z.c) n89).trans T8
 generalize T.set p9 (.box z.c)=U at sU U5 U7 U8 U9 ⊢
 simp only [U5,c7,t7,↓vcPre,↓z0,↓reduceIte,vcPost,vcStd,Nat.reduceEqDiff,reduceCtorEq,Nat.reduceAdd,Nat.reduceLeDiff,Int.reduceLT,Int.reduceLE,↓u_setN]
 refine (zgr (σ:=U) c hc Rd.sl).Q ?_
 rintro r V ⟨g,rfl,sV,hUg,Vg⟩
 have hK:=qu c
 have V5:=sV _ _ U5
 have V7:=sV _ _ U7
 have V8:=sV _ _ U8
 have V9:=sV _ _ U9
 have sσV:=Store.sub_trans sU sV
 simp only [c7,↓vcPre,↓z0,↓reduceIte,vcPost,vcStd,Nat.reduceEqDiff,reduceCtorEq,Nat.reduceAdd,Nat.reduceLeDiff,Int.reduceLT,Int.reduceLE,↓u_setN]
 refine AllocQ.i0 fun p11 h11 => ?_
 have zK:∀ v,splice 0 ((configK c).cV v) [AV.int .u32 0,.int .u32 0,.int .i64 0,.nils,.int .i64 0,.int .i64 0,.int .i64 0]=some ((configK c).cV v):=fun _=>rfl
 simp only [c7,zK,↓vcPre,↓z0,↓reduceIte,vcPost,vcStd,Nat.reduceEqDiff,reduceCtorEq,Nat.reduceAdd,Nat.reduceLeDiff,Int.reduceLT,Int.reduceLE,↓u_setN]
 have W11:=Store.set_same (V.set p11 (.box [AV.int .u32 0,.int .u32 0,.int .i64 0,.nils,.int .i64 0,.int .i64 0,.int .i64 0])) p11 (.box ((configK c).cV (.os g 4 0 (configK c).ps.length)))
 have sW:Store.sub V ((V.set p11 (.box [AV.int .u32 0,.int .u32 0,.int .i64 0,.nils,.int .i64 0,.int .i64 0,.int .i64 0])).set p11 (.box ((configK c).cV (.os g 4 0 (configK c).ps.length)))):=za (Store.sub_set _ _ _ h11) h11
 generalize (V.set p11 (.box [AV.int .u32 0,.int .u32 0,.int .i64 0,.nils,.int .i64 0,.int .i64 0,.int .i64 0])).set p11 (.box ((configK c).cV (.os g 4 0 (configK c).ps.length)))=W at sW W11 ⊢
 have W5:=sW _ _ V5
 have W7:=sW _ _ V7
 have W8:=sW _ _ V8
 have W9:=sW _ _ V9
 have Wg:=sW _ _ Vg
 have sσW:=Store.sub_trans sσV sW
 have ng8:¬ g=p8:=fun e=>by subst e;rw [W8] at Wg;cases Wg
 have ng9:¬ g=p9:=fun e=>by subst e;rw [W9] at Wg;cases Wg
 have n118:¬ p11=p8:=fun e=>by subst e;rw [V8] at h11;cases h11
 have n119:¬ p11=p9:=fun e=>by subst e;rw [V9] at h11;cases h11
 simp only [W8,b13,b4,↓vcPre,↓z0,↓reduceIte,vcPost,vcStd,Nat.reduceEqDiff,reduceCtorEq,Nat.reduceAdd,Nat.reduceLeDiff,Int.reduceLT,Int.reduceLE,↓u_setN]
 refine (c18 b.a).Q ?_
 simp only [W8,s4,b13,↓vcPre,↓z0,↓reduceIte,vcPost,vcStd,Nat.reduceEqDiff,reduceCtorEq,Nat.reduceAdd,Nat.reduceLeDiff,Int.reduceLT,Int.reduceLE,↓u_setN]
 have n98:¬ p9=p8:=fun e=>n89 e.symm
 simp only [n98,W9,b13,b4,↓vcPre,↓z0,↓reduceIte,vcPost,vcStd,Nat.reduceEqDiff,reduceCtorEq,Nat.reduceAdd,Nat.reduceLeDiff,Int.reduceLT,Int.reduceLE,↓u_setN]
 refine ⟨rfl,(c18 z.a).Q ?_⟩
 simp only [n98,W9,s4,b13,↓vcPre,↓z0,↓reduceIte,vcPost,vcStd,Nat.reduceEqDiff,reduceCtorEq,Nat.reduceAdd,Nat.reduceLeDiff,Int.reduceLT,Int.reduceLE,↓u_setN]
 simp only [n59,n79,W7,show ¬ p7=p8 from h78,↓vcPre,↓z0,↓reduceIte,vcPost,vcStd,Nat.reduceEqDiff,reduceCtorEq,Nat.reduceAdd,Nat.reduceLeDiff,Int.reduceLT,Int.reduceLE,↓u_setN]
 have hfr:∀ i o,¬ i=p8→¬ i=p9→W i=some o→((W.set p8 (.box ({ b with a:=shortA b.a }:PathR).c)).set p9 (.box ({ z with a:=shortA z.a }:PathR).c)) i=some o:=fun i o h1 h2 h=>by rw [Store.set_ne _ _ h2,Store.set_ne _ _ h1];exact h
 have X5:=hfr _ _ h58 n59 W5
 have X7:=hfr _ _ h78 n79 W7
 have X11:=hfr _ _ n118 n119 W11
 have Xg:=hfr _ _ ng8 ng9 Wg
 have X9:=Store.set_same (W.set p8 (.box ({ b with a:=shortA b.a }:PathR).c)) p9 (.box ({ z with a:=shortA z.a }:PathR).c)
 have X8:((W.set p8 (.box ({ b with a:=shortA b.a }:PathR).c)).set p9 (.box ({ z with a:=shortA z.a }:PathR).c)) p8=some (.box ({ b with a:=shortA b.a }:PathR).c):=by rw [Store.set_ne _ _ n89];exact Store.set_same _ _ _
 have sσX:Store.sub σ ((W.set p8 (.box ({ b with a:=shortA b.a }:PathR).c)).set p9 (.box ({ z with a:=shortA z.a }:PathR).c)):=za (za sσW hσ8) hσ9
 generalize (W.set p8 (.box ({ b with a:=shortA b.a }:PathR).c)).set p9 (.box ({ z with a:=shortA z.a }:PathR).c)=X at sσX X5 X7 X8 X9 X11 Xg ⊢
 refine ⟨rfl,(c19 p.1 p.2 hp).Q ?_⟩
 simp only [↓vcPre,↓z0,↓reduceIte,vcPost,vcStd,Nat.reduceEqDiff,reduceCtorEq,Nat.reduceAdd,Nat.reduceLeDiff,Int.reduceLT,Int.reduceLE,↓u_setN]
 refine AllocQ.i0 fun p12 h12 => ?_
 simp only [↓vcPre,↓z0,↓reduceIte,vcPost,vcStd,Nat.reduceEqDiff,reduceCtorEq,Nat.reduceAdd,Nat.reduceLeDiff,Int.reduceLT,Int.reduceLE,↓u_setN]
 have sY:Store.sub X ((X.set p12 (.box [AV.int .u32 0,.int .i64 0])).set p12 (.box [AV.int .u32 (prefixF p.1 p.2).1,.int .i64 (prefixF p.1 p.2).2])):=za (Store.sub_set _ _ _ h12) h12
 have Y12:=Store.set_same (X.set p12 (.box [AV.int .u32 0,.int .i64 0])) p12 (.box [AV.int .u32 (prefixF p.1 p.2).1,.int .i64 (prefixF p.1 p.2).2])
 generalize (X.set p12 (.box [AV.int .u32 0,.int .i64 0])).set p12 (.box [AV.int .u32 (prefixF p.1 p.2).1,.int .i64 (prefixF p.1 p.2).2])=Y at sY Y12 ⊢
 exact z6k (σ:=σ) hc.ft hK.fit { b with a:=shortA b.a } { z with a:=shortA z.a } (z0w b.a) (z0w z.a) hbo hbn hb (Store.sub_trans sσX sY) (lv := .sl 4 (c.ps.map Peer.c)) Rd.sl (sY _ _ X5) (sY _ _ X7) (sY _ _ X8) (sY _ _ X9) (sY _ _ X11) (sY _ _ Xg) Y12 [] (fun t' ht=>⟨rfl,ht⟩)
end Go.Am
namespace Go.Am
open Go.Proofs Go.Sort
theorem zdq (c:Cfg) (hc:c.Ok) (k:Int) (_:I64 k) (q:Int×Int) (hq:I64 q.2) (b:PathR) (hb:I64 b.peer∧I64 b.a.org∧okNums b.a) (z:PathR) (_:I64 z.peer∧I64 z.a.org∧okNums z.a):Pur Tryz.prog 4 [.agg (c.cV (.sl 4 (c.ps.map Peer.c))),.int .i64 k,.agg (pfC q),.agg b.c,.agg z.c] (.bool true):=z4y c hc k q hq b z hb.1 hb.2.1 hb.2.2.1.1
end Go.Am
