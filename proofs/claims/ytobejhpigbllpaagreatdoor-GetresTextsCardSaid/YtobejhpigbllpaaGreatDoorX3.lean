/-
  Structures, as Lean's and as types of the machine's. Printed by mkwalk.py.
  The functions: their numbers, their codes. Printed by mkwalk.py.
  strings.Builder's grow, at a builder without a buffer. Printed by mkwalk.py.
  Each code is the program's. Printed by mkwalk.py.
  What a law is given, as the machine's values: a reading is a value of the type, all of it memory that nobody writes.
  A law's row, out of what the machine comes to.
  From the model's values to typed ones; a law that answers true.
  Plain laws: numbers, pieces of lists, a text split at a byte.
-/
import Derived.Test.YtobejhpigbllpaaGreatDoorProg
import Derived.Lib.MakeNoZero
import Derived.Lib.Builder
import Derived.Lib.Walk
import Derived.WalkKit
import Derived.Laws.Externs
import Derived.Laws.IdiomCopy
import Derived.KernelRfl
import Derived.ProofKit
import Derived.Deep.Slices
import Derived.DataReads
import Derived.Carry
import Derived.Test.YtobejhpigbllpaaGreatDoorX2
section
set_option linter.unusedVariables false
set_option maxRecDepth 100000
set_option maxHeartbeats 4000000
namespace Go.Proofs.YtobejhpigbllpaaGreatDoor.Am
structure AB where
 V:Int
 B:(Ar UInt8 16)
 deriving DecidableEq
def Ak:T:=Pg(CH(T.int .i64)(Ay 16 T.u8))AB(fun x=>(x.V,x.B))(fun p=>⟨p.1,p.2⟩)(fun _=>rfl)
def BA:AM Ak(T.int .i64)0:=Dj(DR(Aw _))
def B7:AM Ak(Ay 16 T.u8)1:=Dj(Bc(Aw _))
def Fa:=T1(g:=fun p=>⟨p.1,p.2⟩)(hfg:=fun _=>rfl)(Kc(CW.int .i64)(Hy 16 CW.u8))(fun(x y:AB)=>inferInstance)(f:=fun x=>(x.V,x.B))(by rintro⟨⟩⟨⟩h;cases h;rfl)
structure AF where
 A:AB
 Port:Int
 deriving DecidableEq
def Ao:T:=Pg(CH Ak(T.int .i64))AF(fun x=>(x.A,x.Port))(fun p=>⟨p.1,p.2⟩)(fun _=>rfl)
def D3:AM Ao Ak 0:=Dj(DR(Aw _))
def DI:AM Ao(T.int .i64)17:=Dj(Bc(Aw _))
def Cy:=T1(g:=fun p=>⟨p.1,p.2⟩)(hfg:=fun _=>rfl)(Kc Fa(CW.int .i64))(fun(x y:AF)=>inferInstance)(f:=fun x=>(x.A,x.Port))(by rintro⟨⟩⟨⟩h;cases h;rfl)
structure Aq where
 A:AB
 Bits:Int
 deriving DecidableEq
def Aj:T:=Pg(CH Ak(T.int .i64))Aq(fun x=>(x.A,x.Bits))(fun p=>⟨p.1,p.2⟩)(fun _=>rfl)
def BE:AM Aj Ak 0:=Dj(DR(Aw _))
def Ce:AM Aj(T.int .i64)17:=Dj(Bc(Aw _))
def ED:=T1(g:=fun p=>⟨p.1,p.2⟩)(hfg:=fun _=>rfl)(Kc Fa(CW.int .i64))(fun(x y:Aq)=>inferInstance)(f:=fun x=>(x.A,x.Bits))(by rintro⟨⟩⟨⟩h;cases h;rfl)
structure Bb where
 Key:(Ar UInt8 32)
 Psk:(Ar UInt8 32)
 End:AF
 Keep:Int
 Sent:UInt64
 Got:UInt64
 Allowed:(GS Aq)
 deriving DecidableEq
def A5:T:=Pg(CH(Ay 32 T.u8)(CH(Ay 32 T.u8)(CH Ao(CH(T.int .i64)(CH T.u64(CH T.u64(T.sl Aj)))))))Bb(fun x=>(x.Key,x.Psk,x.End,x.Keep,x.Sent,x.Got,x.Allowed))(fun p=>⟨p.1,p.2.1,p.2.2.1,p.2.2.2.1,p.2.2.2.2.1,p.2.2.2.2.2.1,p.2.2.2.2.2.2⟩)(fun _=>rfl)
def EZ:AM A5(Ay 32 T.u8)0:=Dj(DR(Aw _))
def PY:AM A5(Ay 32 T.u8)32:=Dj(Bc(DR(Aw _)))
def Et:AM A5 Ao 64:=Dj(Bc(Bc(DR(Aw _))))
def I4:AM A5(T.int .i64)82:=Dj(Bc(Bc(Bc(DR(Aw _)))))
def Ph:AM A5 T.u64 83:=Dj(Bc(Bc(Bc(Bc(DR(Aw _))))))
def PZ:AM A5 T.u64 84:=Dj(Bc(Bc(Bc(Bc(Bc(DR(Aw _)))))))
def Cu:AM A5(T.sl Aj)85:=Dj(Bc(Bc(Bc(Bc(Bc(Bc(Aw _)))))))
structure B6 where
 Private:(Ar UInt8 32)
 Port:Int
 Mark:UInt32
 Peers:(GS Bb)
 deriving DecidableEq
def AD:T:=Pg(CH(Ay 32 T.u8)(CH(T.int .i64)(CH T.u32(T.sl A5))))B6(fun x=>(x.Private,x.Port,x.Mark,x.Peers))(fun p=>⟨p.1,p.2.1,p.2.2.1,p.2.2.2⟩)(fun _=>rfl)
def LW:AM AD(Ay 32 T.u8)0:=Dj(DR(Aw _))
def I5:AM AD(T.int .i64)32:=Dj(Bc(DR(Aw _)))
def Pi:AM AD T.u32 33:=Dj(Bc(Bc(DR(Aw _))))
def BX:AM AD(T.sl A5)34:=Dj(Bc(Bc(Bc(Aw _))))
structure A7 where
 Key:AN
 Value:AN
 deriving DecidableEq
def Au:T:=Pg(CH Ax Ax)A7(fun x=>(x.Key,x.Value))(fun p=>⟨p.1,p.2⟩)(fun _=>rfl)
def C3:AM Au Ax 0:=Dj(DR(Aw _))
def C6:AM Au Ax 1:=Dj(Bc(Aw _))
structure Ap where
 Word:Int
 Key:(Ar UInt8 32)
 N:UInt64
 End:AF
 P:Aq
 deriving DecidableEq
def Af:T:=Pg(CH(T.int .i64)(CH(Ay 32 T.u8)(CH T.u64(CH Ao Aj))))Ap(fun x=>(x.Word,x.Key,x.N,x.End,x.P))(fun p=>⟨p.1,p.2.1,p.2.2.1,p.2.2.2.1,p.2.2.2.2⟩)(fun _=>rfl)
def Az:AM Af(T.int .i64)0:=Dj(DR(Aw _))
def Du:AM Af(Ay 32 T.u8)1:=Dj(Bc(DR(Aw _)))
def B0:AM Af T.u64 33:=Dj(Bc(Bc(DR(Aw _))))
def Fq:AM Af Ao 34:=Dj(Bc(Bc(Bc(DR(Aw _)))))
def GV:AM Af Aj 52:=Dj(Bc(Bc(Bc(Bc(Aw _)))))
def CI:=T1(g:=fun p=>⟨p.1,p.2.1,p.2.2.1,p.2.2.2.1,p.2.2.2.2⟩)(hfg:=fun _=>rfl)(Kc(CW.int .i64)(Kc(Hy 32 CW.u8)(Kc CW.u64(Kc Cy ED))))(fun(x y:Ap)=>inferInstance)(f:=fun x=>(x.Word,x.Key,x.N,x.End,x.P))(by rintro⟨⟩⟨⟩h;cases h;rfl)
structure Bn where
 Key:AN
 Value:AN
 deriving DecidableEq
def C5:T:=Pg(CH Ax Ax)Bn(fun x=>(x.Key,x.Value))(fun p=>⟨p.1,p.2⟩)(fun _=>rfl)
def Hx:AM C5 Ax 0:=Dj(DR(Aw _))
def Kb:AM C5 Ax 1:=Dj(Bc(Aw _))
def N6:(Ar UInt8 32)→(Ar UInt8 32)→Bool:=HN(Hy 32 CW.u8)
def GU:Aq→Aq→Bool:=HN ED
abbrev Fd:AN:=[48,48,48,49,48,50,48,51,48,52,48,53,48,54,48,55,48,56,48,57,49,48,49,49,49,50,49,51,49,52,49,53,49,54,49,55,49,56,49,57,50,48,50,49,50,50,50,51,50,52,50,53,50,54,50,55,50,56,50,57,51,48,51,49,51,50,51,51,51,52,51,53,51,54,51,55,51,56,51,57,52,48,52,49,52,50,52,51,52,52,52,53,52,54,52,55,52,56,52,57,53,48,53,49,53,50,53,51,53,52,53,53,53,54,53,55,53,56,53,57,54,48,54,49,54,50,54,51,54,52,54,53,54,54,54,55,54,56,54,57,55,48,55,49,55,50,55,51,55,52,55,53,55,54,55,55,55,56,55,57,56,48,56,49,56,50,56,51,56,52,56,53,56,54,56,55,56,56,56,57,57,48,57,49,57,50,57,51,57,52,57,53,57,54,57,55,57,56,57,57]
abbrev str_1:AN:=[0,1,2,2,3,3,3,3,4,4,4,4,4,4,4,4,5,5,5,5,5,5,5,5,5,5,5,5,5,5,5,5,6,6,6,6,6,6,6,6,6,6,6,6,6,6,6,6,6,6,6,6,6,6,6,6,6,6,6,6,6,6,6,6,7,7,7,7,7,7,7,7,7,7,7,7,7,7,7,7,7,7,7,7,7,7,7,7,7,7,7,7,7,7,7,7,7,7,7,7,7,7,7,7,7,7,7,7,7,7,7,7,7,7,7,7,7,7,7,7,7,7,7,7,7,7,7,7,8,8,8,8,8,8,8,8,8,8,8,8,8,8,8,8,8,8,8,8,8,8,8,8,8,8,8,8,8,8,8,8,8,8,8,8,8,8,8,8,8,8,8,8,8,8,8,8,8,8,8,8,8,8,8,8,8,8,8,8,8,8,8,8,8,8,8,8,8,8,8,8,8,8,8,8,8,8,8,8,8,8,8,8,8,8,8,8,8,8,8,8,8,8,8,8,8,8,8,8,8,8,8,8,8,8,8,8,8,8,8,8,8,8,8,8,8,8,8,8,8,8,8,8,8,8,8,8]
end Go.Proofs.YtobejhpigbllpaaGreatDoor.Am
end
section
set_option linter.unusedVariables false
set_option maxRecDepth 100000
set_option maxHeartbeats 4000000
namespace Go.Proofs.YtobejhpigbllpaaGreatDoor.Am
def DW:Nat:=6
def HE:Nat:=20
def HB:Nat:=22
def G6:Nat:=23
def EW:Nat:=24
def IR:Nat:=25
def HA:Nat:=26
def Eu:Nat:=28
def FW:Nat:=29
def G2:Nat:=30
def Ew:Nat:=32
def GO:Nat:=35
def HD:Nat:=36
def IW:Nat:=38
def Df:Nat:=39
def G5:Nat:=41
def GP:Nat:=43
def GM:Nat:=46
def FY:Nat:=47
def DD:Nat:=48
def Ey:Nat:=49
def C2:Nat:=50
def Hn:Nat:=51
def G3:Nat:=52
def IY:Nat:=53
def Ee:Nat:=55
def CX:Nat:=60
def Be:Nat:=61
def BG:Nat:=62
def E6:Nat:=64
def Gj:Nat:=65
def FB:Nat:=72
def FV:Nat:=73
def DX:Nat:=74
def Dg:Nat:=75
def EI:Nat:=76
def GQ:Nat:=77
def IV:Nat:=78
def IU:Nat:=79
def G4:Nat:=80
def IZ:Nat:=81
def Ja:Nat:=82
def Fi:Nat:=85
def EJ:Nat:=90
def Jd:Nat:=95
def Dn:Nat:=100
def B4:Nat:=105
def Fh:Nat:=106
def CG:Nat:=107
def Jb:Nat:=108
def Jc:Nat:=109
def EF:Nat:=118
def HJ:Nat:=119
def D9:Nat:=120
def CP:Nat:=121
def DH:Nat:=122
def Ga:Nat:=123
def EL:Nat:=124
def FF:Nat:=125
def Hm:Nat:=126
def JU:Nat:=127
def IX:Nat:=128
def IS:Nat:=129
def H9:Nat:=130
def HC:Nat:=131
def BK:Nat:=132
def FG:Nat:=134
def Fx:Nat:=135
def Dk:Nat:=139
def FE:Nat:=142
def Bj:Nat:=144
def GN:Nat:=145
def IF:Nat:=146
def Ho:Nat:=147
def JW:Nat:=154
def HL:Nat:=155
def HM:Nat:=156
def DG:Nat:=157
def EH:Nat:=158
def Hp:Nat:=159
def Hq:Nat:=160
def FZ:Nat:=161
def CV:Nat:=162
def Ik:Nat:=163
def HF:Nat:=165
def GR:Nat:=166
def BL:Nat:=172
def Cm:Nat:=175
def E7:Nat:=176
def HK:Nat:=181
def EN:Nat:=182
def CF:Nat:=183
def BV:Nat:=184
def CC:Nat:=185
def BJ:Nat:=186
def BN:Nat:=187
def HG:Nat:=188
def CS:Nat:=189
def CQ:Nat:=190
def HH:Nat:=191
def CU:Nat:=192
def CT:Nat:=193
def G7:Nat:=194
def Cs:Nat:=196
def HI:Nat:=197
def Cr:Nat:=198
def BB:Nat:=199
def Bm:Nat:=200
def Bi:Nat:=201
def Is:Nat:=202
def Dm:Nat:=203
def Dl:Nat:=204
def Fl:Nat:=205
def EM:Nat:=206
def Fw:Nat:=207
def Cq:Nat:=212
def BO:Nat:=213
def BY:Nat:=214
def JV:Nat:=215
def D5:Nat:=226
def Cp:Nat:=227
def D4:Nat:=228
def DL:Nat:=229
def Cv:Nat:=230
def Fk:Nat:=232
def FX:Nat:=233
def BP:Nat:=239
def DV:Nat:=240
def BQ:Nat:=241
def B5:Nat:=248
def Fj:Nat:=249
noncomputable def Ha:CM:=⟨false,1,39,[.tmp 2],(.seq(rg false [oz 1(.box 54 35(.t 0)),oz 2(.mv(.k(.b false)))])(.seq(.seq(rg false [oz 7(.ld true 35(.t 1)),oz 8(.call HB [(.t 7)])])(.cond(.t 8)(.seq(rg false [oz 9(.call G6 []),oz 2(.mv(.t 9))]) .ret) .skip))(.seq(rg false [oz 11(.ld true 35(.t 1)),oz 12(.call EW [(.t 11)]),oz 10(.mv(.t 12)),oz 13(.ext(.t 10)0),oz 14(.ext(.t 10)1),oz 3(.mv(.t 13)),oz 4(.mv(.t 14))])(.seq(rg false [oz 16(.ld true 35(.t 1)),oz 17(.call IR [(.t 16)]),oz 15(.mv(.t 17)),oz 18(.ext(.t 15)0),oz 19(.ext(.t 15)1),oz 5(.mv(.t 18)),oz 6(.mv(.t 19))])(.seq(rg false [oz 20(.mv(.t 3)),oz 21(.mv(.t 5)),oz 22(.bin .eql(.t 20)(.t 21)),oz 23(.mv(.t 22)),⟨some 24,some(23,true), .mv(.t 4)⟩,⟨some 25,some(23,true), .bin .eql(.t 24)(.k(.i .i64 0))⟩,⟨some 26,some(23,true), .mv(.t 6)⟩,⟨some 27,some(23,true), .eq false(.one(.b))(.t 25)(.t 26)⟩,oz 28(.pick(.t 23)(.t 27)(.k(.b false))),oz 29(.mv(.t 28)),⟨some 30,some(29,true), .mv(.t 6)⟩,⟨some 31,some(29,true), .mv(.t 30)⟩,⟨some 32,some(31,false), .mv(.t 4)⟩,⟨some 33,some(31,false), .bin .eql(.t 32)(.k(.i .i64 1))⟩,⟨some 34,some(29,true), .pick(.t 31)(.k(.b true))(.t 33)⟩,oz 35(.pick(.t 29)(.t 34)(.k(.b false))),oz 36(.mv(.t 35)),⟨some 37,some(36,true), .call G6 []⟩,oz 38(.pick(.t 36)(.t 37)(.k(.b false))),oz 2(.mv(.t 38))]) .ret)))))⟩
noncomputable def M3:CM:=⟨false,1,19,[.tmp 2],(.seq(rg false [oz 2(.mv(.k(.nils)))])(.seq(rg false [oz 4(.mv(.t 0)),oz 5(.call G5 [(.t 4),(.k(.i .u8 10))]),oz 3(.mv(.t 5))])(.seq(.seq(rg false [oz 6(.mv(.t 3)),oz 7(.mv(.t 3)),oz 8(.len(.t 7)),oz 9(.bin .sub(.t 8)(.k(.i .i64 1))),oz 10(.ias 1(.t 6)(.t 9)),oz 11(.ld false 1(.t 10)),oz 12(.bin .eql(.t 11)(.k(.s [])))])(.cond(.t 12)(.seq(rg false [oz 13(.mv(.t 3)),oz 14(.mv(.t 3)),oz 15(.len(.t 14)),oz 16(.bin .sub(.t 15)(.k(.i .i64 1))),oz 17(.sll 1(.t 13)none(some(.t 16))),oz 2(.mv(.t 17))]) .ret) .skip))(.seq(rg false [oz 18(.mv(.t 3)),oz 2(.mv(.t 18))]) .ret))))⟩
noncomputable def XX:AC:=(.seq(.seq(rg false [oz 8(.mv(.t 3)),oz 9(.fa 34(.t 1)),oz 10(.ld false 1(.t 9)),oz 11(.len(.t 10)),oz 12(.bin .lss(.t 8)(.t 11))])(.cond(.t 12) .skip(.exit 0)))(.seq(.blk 1(.seq(rg false [oz 15(.fa 34(.t 1)),oz 16(.ld false 1(.t 15)),oz 17(.mv(.t 3)),oz 18(.ias 86(.t 16)(.t 17)),oz 19(.fa 85(.t 18)),oz 20(.ld false 1(.t 19)),oz 21(.len(.t 20)),oz 22(.bin .gtr(.t 21)(.k(.i .i64 80)))])(.cond(.t 22)(.seq(rg false [oz 2(.mv(.k(.b true)))]) .ret) .skip)))(rg false [oz 13(.mv(.t 3)),oz 14(.bin .add(.t 13)(.k(.i .i64 1))),oz 3(.mv(.t 14))])))
noncomputable def Mv:CM:=⟨false,1,23,[.tmp 2],(.seq(rg false [oz 1(.box 54 35(.t 0)),oz 2(.mv(.k(.b false)))])(.seq(.seq(rg false [oz 4(.fa 34(.t 1)),oz 5(.ld false 1(.t 4)),oz 6(.len(.t 5)),oz 7(.bin .gtr(.t 6)(.k(.i .i64 20)))])(.cond(.t 7)(.seq(rg false [oz 2(.mv(.k(.b true)))]) .ret) .skip))(.seq(.seq(rg false [oz 3(.mv(.k(.i .i64 0)))])(.blk 0(.loop [1,3]XX)))(.seq(rg false [oz 2(.mv(.k(.b false)))]) .ret))))⟩
noncomputable def M7:CM:=⟨false,0,20,[.tmp 0],(.seq(rg false [oz 0(.mv(.k(.b false)))])(.seq(rg false [oz 4(.bld AD.zc []),oz 5(.call EW [(.t 4)]),oz 3(.mv(.t 5)),oz 6(.ext(.t 3)0),oz 7(.ext(.t 3)1),oz 1(.mv(.t 6)),oz 2(.mv(.t 7))])(.seq(rg false [oz 8(.mv(.t 2)),oz 9(.bin .eql(.t 8)(.k(.i .i64 0))),oz 10(.mv(.t 9)),⟨some 11,some(10,true), .mv(.t 1)⟩,⟨some 12,some(10,true), .call HE [(.t 11)]⟩,⟨some 13,some(10,true), .len(.t 12)⟩,⟨some 14,some(10,true), .bin .eql(.t 13)(.k(.i .i64 5))⟩,oz 15(.pick(.t 10)(.t 14)(.k(.b false))),oz 16(.mv(.t 15)),⟨some 17,some(16,true), .call Eu [(.k(.i .i64 7))]⟩,⟨some 18,some(16,true), .bin .eql(.t 17)(.k(.s [101,114,114,110,111,61,55,10,10]))⟩,oz 19(.pick(.t 16)(.t 18)(.k(.b false))),oz 0(.mv(.t 19))]) .ret)))⟩
noncomputable def Uv:AC:=(.seq(rg false [oz 26(.bin .lss(.t 25)(.t 24))])(.seq(.cond(.t 26) .skip(.exit 0))(.seq(.blk 1(.seq(rg false [oz 27(.ias 86(.t 23)(.t 25)),oz 28(.ld true 86(.t 27)),oz 6(.alloc 89 A5.zc),on(.st 86(.t 6)(.t 28))])(rg false [oz 29(.mv(.t 4)),oz 30(.ld true 86(.t 6)),oz 31(.call FY [(.t 30)]),oz 32(.app 93 70 112(.t 29)(.t 31)),oz 4(.mv(.t 32))])))(rg false [oz 33(.bin .add(.t 25)(.k(.i .i64 1))),oz 25(.mv(.t 33))]))))
noncomputable def Kq:CM:=⟨false,1,42,[.tmp 2, .tmp 3],(.seq(rg false [oz 1(.box 54 35(.t 0)),oz 2(.mv(.k(.s []))),oz 3(.mv(.k(.i .i64 0)))])(.seq(.seq(rg false [oz 7(.ld true 35(.t 1)),oz 8(.call GM [(.t 7)]),oz 9(.un .not(.t 8))])(.cond(.t 9)(.seq(rg false [oz 2(.mv(.k(.s []))),oz 3(.mv(.k(.i .i64 1)))]) .ret) .skip))(.seq(rg false [oz 10(.fa 0(.t 1)),oz 11(.ld true 32(.t 10)),oz 12(.bld Af.zc [(0,1,(.k(.i .i64 1))),(1,32,(.t 11))]),oz 13(.fa 32(.t 1)),oz 14(.ld false 1(.t 13)),oz 15(.cvi .u64(.t 14)),oz 16(.bld Af.zc [(0,1,(.k(.i .i64 2))),(33,1,(.t 15))]),oz 17(.fa 33(.t 1)),oz 18(.ld false 1(.t 17)),oz 19(.cvi .u64(.t 18)),oz 20(.bld Af.zc [(0,1,(.k(.i .i64 3))),(33,1,(.t 19))]),oz 21(.bls 93 70(List.replicate 3 Af.zc) [(0,(.t 12)),(1,(.t 16)),(2,(.t 20))]),oz 4(.mv(.t 21))])(.seq(.seq(rg false [oz 22(.fa 34(.t 1)),oz 23(.ld false 1(.t 22)),oz 24(.len(.t 23)),oz 25(.mv(.k(.i .i64 0)))])(.blk 0(.loop [4,23,24,25]Uv)))(.seq(rg false [oz 34(.mv(.t 4)),oz 35(.bld Af.zc [(0,1,(.k(.i .i64 16)))]),oz 36(.bll 70(List.replicate 1 Af.zc) [(0,(.t 35))]),oz 37(.app 93 70 112(.t 34)(.t 36)),oz 38(.call Ey [(.t 37)]),oz 39(.call DD [(.t 38)]),oz 40(.ext(.t 39)0),oz 41(.ext(.t 39)1),oz 2(.mv(.t 40)),oz 3(.mv(.t 41))]) .ret)))))⟩
noncomputable def Zn:AC:=(.seq(.seq(rg false [oz 80(.mv(.t 7)),oz 81(.fa 85(.t 6)),oz 82(.ld false 1(.t 81)),oz 83(.len(.t 82)),oz 84(.bin .lss(.t 80)(.t 83))])(.cond(.t 84) .skip(.exit 2)))(.seq(.blk 3(rg false [oz 87(.mv(.t 4)),oz 88(.fa 85(.t 6)),oz 89(.ld false 1(.t 88)),oz 90(.mv(.t 7)),oz 91(.ias 18(.t 89)(.t 90)),oz 92(.ld true 18(.t 91)),oz 93(.bld Af.zc [(0,1,(.k(.i .i64 12))),(52,18,(.t 92))]),oz 94(.call C2 [(.t 93)]),oz 95(.bin .add(.t 87)(.t 94)),oz 4(.mv(.t 95))]))(rg false [oz 85(.mv(.t 7)),oz 86(.bin .add(.t 85)(.k(.i .i64 1))),oz 7(.mv(.t 86))])))
noncomputable def Zm:AC:=(.seq(.seq(rg false [oz 27(.mv(.t 5)),oz 28(.fa 34(.t 1)),oz 29(.ld false 1(.t 28)),oz 30(.len(.t 29)),oz 31(.bin .lss(.t 27)(.t 30))])(.cond(.t 31) .skip(.exit 0)))(.seq(.blk 1(.seq(rg false [oz 34(.fa 34(.t 1)),oz 35(.ld false 1(.t 34)),oz 36(.mv(.t 5)),oz 37(.ias 86(.t 35)(.t 36)),oz 38(.ld true 86(.t 37)),oz 6(.alloc 89 A5.zc),on(.st 86(.t 6)(.t 38))])(.seq(rg true [oz 39(.mv(.t 4)),oz 40(.fa 0(.t 6)),oz 41(.ld true 32(.t 40)),oz 42(.bld Af.zc [(0,1,(.k(.i .i64 5))),(1,32,(.t 41))]),oz 43(.call C2 [(.t 42)]),oz 44(.bin .add(.t 39)(.t 43)),oz 45(.fa 32(.t 6)),oz 46(.ld true 32(.t 45)),oz 47(.bld Af.zc [(0,1,(.k(.i .i64 8))),(1,32,(.t 46))]),oz 48(.call C2 [(.t 47)]),oz 49(.bin .add(.t 44)(.t 48)),oz 50(.bld Af.zc [(0,1,(.k(.i .i64 13))),(33,1,(.k(.i .u64 1)))]),oz 51(.call C2 [(.t 50)]),oz 52(.bin .add(.t 49)(.t 51)),oz 4(.mv(.t 52))])(.seq(.seq(rg false [oz 53(.fa 64(.t 6)),oz 54(.ld true 18(.t 53)),oz 55(.bld Ao.zc []),oz 56(.eq true(.agg(kk [(1, .i .i64),(16, .i .u8),(1, .i .i64)]))(.t 54)(.t 55))])(.cond(.t 56)(rg false [oz 57(.mv(.t 4)),oz 58(.fa 64(.t 6)),oz 59(.ld true 18(.t 58)),oz 60(.bld Af.zc [(0,1,(.k(.i .i64 9))),(34,18,(.t 59))]),oz 61(.call C2 [(.t 60)]),oz 62(.bin .add(.t 57)(.t 61)),oz 4(.mv(.t 62))]) .skip))(.seq(rg true [oz 63(.mv(.t 4)),oz 64(.fa 83(.t 6)),oz 65(.ld false 1(.t 64)),oz 66(.bld Af.zc [(0,1,(.k(.i .i64 14))),(33,1,(.t 65))]),oz 67(.call C2 [(.t 66)]),oz 68(.bin .add(.t 63)(.t 67)),oz 69(.fa 84(.t 6)),oz 70(.ld false 1(.t 69)),oz 71(.bld Af.zc [(0,1,(.k(.i .i64 15))),(33,1,(.t 70))]),oz 72(.call C2 [(.t 71)]),oz 73(.bin .add(.t 68)(.t 72)),oz 74(.fa 82(.t 6)),oz 75(.ld false 1(.t 74)),oz 76(.cvi .u64(.t 75)),oz 77(.bld Af.zc [(0,1,(.k(.i .i64 10))),(33,1,(.t 76))]),oz 78(.call C2 [(.t 77)]),oz 79(.bin .add(.t 73)(.t 78)),oz 4(.mv(.t 79))])
  (.seq(rg false [oz 7(.mv(.k(.i .i64 0)))])(.blk 2(.loop [1,4,5,6,7]Zn))))))))(rg false [oz 32(.mv(.t 5)),oz 33(.bin .add(.t 32)(.k(.i .i64 1))),oz 5(.mv(.t 33))])))
noncomputable def O7:CM:=⟨false,1,99,[.tmp 2, .tmp 3],(.seq(rg false [oz 1(.box 54 35(.t 0)),oz 2(.mv(.k(.s []))),oz 3(.mv(.k(.b false)))])(.seq(.seq(rg false [oz 8(.ld true 35(.t 1)),oz 9(.call HA [(.t 8)]),oz 10(.un .not(.t 9))])(.cond(.t 10)(.seq(rg false [oz 2(.mv(.k(.s []))),oz 3(.mv(.k(.b false)))]) .ret) .skip))(.seq(rg true [oz 11(.fa 0(.t 1)),oz 12(.ld true 32(.t 11)),oz 13(.bld Af.zc [(0,1,(.k(.i .i64 1))),(1,32,(.t 12))]),oz 14(.call C2 [(.t 13)]),oz 15(.fa 32(.t 1)),oz 16(.ld false 1(.t 15)),oz 17(.cvi .u64(.t 16)),oz 18(.bld Af.zc [(0,1,(.k(.i .i64 2))),(33,1,(.t 17))]),oz 19(.call C2 [(.t 18)]),oz 20(.bin .add(.t 14)(.t 19)),oz 21(.fa 33(.t 1)),oz 22(.ld false 1(.t 21)),oz 23(.cvi .u64(.t 22)),oz 24(.bld Af.zc [(0,1,(.k(.i .i64 3))),(33,1,(.t 23))]),oz 25(.call C2 [(.t 24)]),oz 26(.bin .add(.t 20)(.t 25)),oz 4(.mv(.t 26))])(.seq(.seq(rg false [oz 5(.mv(.k(.i .i64 0)))])(.blk 0(.loop [1,4,5]Zm)))(.seq(rg false [oz 96(.mv(.t 4)),oz 97(.call FW [(.k(.i .i64 0))]),oz 98(.bin .add(.t 96)(.t 97)),oz 2(.mv(.t 98)),oz 3(.mv(.k(.b true)))]) .ret)))))⟩
noncomputable def XW:AC:=(.seq(.seq(rg false [oz 54(.mv(.t 6)),oz 55(.mv(.t 4)),oz 56(.bin .lss(.t 54)(.t 55))])(.cond(.t 56) .skip(.exit 2)))(.seq(.blk 3(.seq(rg true [oz 59(.fa 34(.t 1)),oz 60(.ld false 1(.t 59)),oz 61(.mv(.t 6)),oz 62(.ias 86(.t 60)(.t 61)),oz 63(.fa 0(.t 62)),oz 64(.ld true 32(.t 63)),oz 65(.fa 0(.t 5)),oz 66(.ld true 32(.t 65)),oz 67(.eq false(.agg(kk [(32, .i .u8)]))(.t 64)(.t 66))])(.cond(.t 67)(.seq(rg false [oz 2(.mv(.k(.b false)))]) .ret) .skip)))(rg false [oz 57(.mv(.t 6)),oz 58(.bin .add(.t 57)(.k(.i .i64 1))),oz 6(.mv(.t 58))])))
noncomputable def XV:AC:=(.seq(.seq(rg false [oz 98(.mv(.t 9)),oz 99(.mv(.t 3)),oz 100(.len(.t 99)),oz 101(.bin .lss(.t 98)(.t 100))])(.cond(.t 101) .skip(.exit 6)))(.seq(.blk 7(.seq(rg true [oz 104(.mv(.t 3)),oz 105(.mv(.t 9)),oz 106(.ias 18(.t 104)(.t 105)),oz 107(.ld true 18(.t 106)),oz 108(.ld true 18(.t 8)),oz 109(.eq false(.agg(kk [(1, .i .i64),(16, .i .u8),(1, .i .i64)]))(.t 107)(.t 108))])(.cond(.t 109)(.seq(rg false [oz 2(.mv(.k(.b false)))]) .ret) .skip)))(rg false [oz 102(.mv(.t 9)),oz 103(.bin .add(.t 102)(.k(.i .i64 1))),oz 9(.mv(.t 103))])))
noncomputable def XU:AC:=(.seq(.seq(rg false [oz 68(.mv(.t 7)),oz 69(.fa 85(.t 5)),oz 70(.ld false 1(.t 69)),oz 71(.len(.t 70)),oz 72(.bin .lss(.t 68)(.t 71))])(.cond(.t 72) .skip(.exit 4)))(.seq(.blk 5(.seq(rg false [oz 75(.fa 85(.t 5)),oz 76(.ld false 1(.t 75)),oz 77(.mv(.t 7)),oz 78(.ias 18(.t 76)(.t 77)),oz 79(.ld true 18(.t 78)),oz 8(.alloc 91 Aj.zc),on(.st 18(.t 8)(.t 79))])(.seq(.seq(rg true [oz 80(.ld true 18(.t 8)),oz 81(.call G3 [(.t 80)]),oz 82(.un .not(.t 81)),oz 83(.mv(.t 82)),⟨some 84,some(83,false), .mv(.t 7)⟩,⟨some 85,some(83,false), .bin .gtr(.t 84)(.k(.i .i64 0))⟩,⟨some 86,some(83,false), .mv(.t 85)⟩,⟨some 87,some(86,true), .fa 85(.t 5)⟩,⟨some 88,some(86,true), .ld false 1(.t 87)⟩,⟨some 89,some(86,true), .mv(.t 7)⟩,⟨some 90,some(86,true), .bin .sub(.t 89)(.k(.i .i64 1))⟩,⟨some 91,some(86,true), .ias 18(.t 88)(.t 90)⟩,⟨some 92,some(86,true), .ld true 18(.t 91)⟩,⟨some 93,some(86,true), .ld true 18(.t 8)⟩,⟨some 94,some(86,true), .call IY [(.t 92),(.t 93)]⟩,⟨some 95,some(86,true), .un .not(.t 94)⟩,⟨some 96,some(83,false), .pick(.t 86)(.t 95)(.k(.b false))⟩,oz 97(.pick(.t 83)(.k(.b true))(.t 96))])(.cond(.t 97)(.seq(rg false [oz 2(.mv(.k(.b false)))]) .ret) .skip))(.seq(.seq(rg false [oz 9(.mv(.k(.i .i64 0)))])(.blk 6(.loop [1,3,4,5,7,8,9]XV)))(rg false [oz 110(.mv(.t 3)),oz 111(.ld true 18(.t 8)),oz 112(.bll 18(List.replicate 1 Aj.zc) [(0,(.t 111))]),oz 113(.app 91 18 32(.t 110)(.t 112)),oz 3(.mv(.t 113))])))))(rg false [oz 73(.mv(.t 7)),oz 74(.bin .add(.t 73)(.k(.i .i64 1))),oz 7(.mv(.t 74))])))
noncomputable def XT:AC:=(.seq(.seq(rg false [oz 20(.mv(.t 4)),oz 21(.fa 34(.t 1)),oz 22(.ld false 1(.t 21)),oz 23(.len(.t 22)),oz 24(.bin .lss(.t 20)(.t 23))])(.cond(.t 24) .skip(.exit 0)))(.seq(.blk 1(.seq(rg false [oz 27(.fa 34(.t 1)),oz 28(.ld false 1(.t 27)),oz 29(.mv(.t 4)),oz 30(.ias 86(.t 28)(.t 29)),oz 31(.ld true 86(.t 30)),oz 5(.alloc 89 A5.zc),on(.st 86(.t 5)(.t 31))])(.seq(.seq(rg false [oz 32(.fa 0(.t 5)),oz 33(.ld true 32(.t 32)),oz 34(.bld(Ay 32 T.u8).zc []),oz 35(.eq false(.agg(kk [(32, .i .u8)]))(.t 33)(.t 34)),oz 36(.mv(.t 35)),⟨some 37,some(36,false), .fa 82(.t 5)⟩,⟨some 38,some(36,false), .ld false 1(.t 37)⟩,⟨some 39,some(36,false), .call Hn [(.t 38)]⟩,⟨some 40,some(36,false), .un .not(.t 39)⟩,oz 41(.pick(.t 36)(.k(.b true))(.t 40)),oz 42(.mv(.t 41)),⟨some 43,some(42,false), .fa 64(.t 5)⟩,⟨some 44,some(42,false), .ld true 18(.t 43)⟩,⟨some 45,some(42,false), .bld Ao.zc []⟩,⟨some 46,some(42,false), .eq true(.agg(kk [(1, .i .i64),(16, .i .u8),(1, .i .i64)]))(.t 44)(.t 45)⟩,⟨some 47,some(42,false), .mv(.t 46)⟩,⟨some 48,some(47,true), .fa 64(.t 5)⟩,⟨some 49,some(47,true), .ld true 18(.t 48)⟩,⟨some 50,some(47,true), .call G2 [(.t 49)]⟩,⟨some 51,some(47,true), .un .not(.t 50)⟩,⟨some 52,some(42,false), .pick(.t 47)(.t 51)(.k(.b false))⟩,oz 53(.pick(.t 42)(.k(.b true))(.t 52))])(.cond(.t 53)(.seq(rg false [oz 2(.mv(.k(.b false)))]) .ret) .skip))(.seq(.seq(rg false [oz 6(.mv(.k(.i .i64 0)))])(.blk 2(.loop [1,3,4,5,6]XW)))(.seq(rg false [oz 7(.mv(.k(.i .i64 0)))])(.blk 4
  (.loop [1,3,4,5,7]XU)))))))(rg false [oz 25(.mv(.t 4)),oz 26(.bin .add(.t 25)(.k(.i .i64 1))),oz 4(.mv(.t 26))])))
noncomputable def Mu:CM:=⟨false,1,117,[.tmp 2],(.seq(rg false [oz 1(.box 54 35(.t 0)),oz 2(.mv(.k(.b false)))])(.seq(.seq(rg false [oz 10(.fa 32(.t 1)),oz 11(.ld false 1(.t 10)),oz 12(.call Hn [(.t 11)]),oz 13(.un .not(.t 12)),oz 14(.mv(.t 13)),⟨some 15,some(14,false), .fa 34(.t 1)⟩,⟨some 16,some(14,false), .ld false 1(.t 15)⟩,⟨some 17,some(14,false), .len(.t 16)⟩,⟨some 18,some(14,false), .bin .gtr(.t 17)(.k(.i .i64 16))⟩,oz 19(.pick(.t 14)(.k(.b true))(.t 18))])(.cond(.t 19)(.seq(rg false [oz 2(.mv(.k(.b false)))]) .ret) .skip))(.seq(rg false [oz 3(.mv(.k(.nils)))])(.seq(.seq(rg false [oz 4(.mv(.k(.i .i64 0)))])(.blk 0(.loop [1,3,4]XT)))(.seq(rg false [oz 114(.mv(.t 3)),oz 115(.len(.t 114)),oz 116(.bin .leq(.t 115)(.k(.i .i64 64))),oz 2(.mv(.t 116))]) .ret)))))⟩
noncomputable def HR:CM:=⟨false,1,21,[.tmp 2],(.seq(rg false [oz 2(.mv(.k(.s [])))])(.seq(.seq(rg false [oz 5(.mv(.t 0)),oz 6(.bin .lss(.t 5)(.k(.i .i64 0))),oz 7(.mv(.t 6)),⟨some 8,some(7,false), .mv(.t 0)⟩,⟨some 9,some(7,false), .bin .gtr(.t 8)(.k(.i .i64 20))⟩,oz 10(.pick(.t 7)(.k(.b true))(.t 9))])(.cond(.t 10)(rg false [oz 0(.mv(.k(.i .i64 1)))]) .skip))(.seq(rg false [oz 12(.mv(.t 0)),oz 13(.cvi .u64(.t 12)),oz 14(.bld Af.zc [(0,1,(.k(.i .i64 16))),(33,1,(.t 13))]),oz 15(.bll 70(List.replicate 1 Af.zc) [(0,(.t 14))]),oz 16(.call Ey [(.t 15)]),oz 17(.call DD [(.t 16)]),oz 11(.mv(.t 17)),oz 18(.ext(.t 11)0),oz 19(.ext(.t 11)1),oz 3(.mv(.t 18)),oz 4(.mv(.t 19))])(.seq(rg false [oz 20(.mv(.t 3)),oz 2(.mv(.t 20))]) .ret))))⟩
noncomputable def Kn:CM:=⟨false,1,14,[.tmp 2],(.seq(rg false [oz 2(.mv(.k(.s [])))])(.seq(.seq(rg false [oz 3(.mv(.t 0)),oz 4(.bin .lss(.t 3)(.k(.i .i64 0))),oz 5(.mv(.t 4)),⟨some 6,some(5,false), .mv(.t 0)⟩,⟨some 7,some(5,false), .bin .gtr(.t 6)(.k(.i .i64 20))⟩,oz 8(.pick(.t 5)(.k(.b true))(.t 7))])(.cond(.t 8)(rg false [oz 0(.mv(.k(.i .i64 1)))]) .skip))(.seq(rg false [oz 9(.mv(.t 0)),oz 10(.cvi .u64(.t 9)),oz 11(.call Df [(.t 10)]),oz 12(.bin .add(.k(.s [101,114,114,110,111,61]))(.t 11)),oz 13(.bin .add(.t 12)(.k(.s [10,10]))),oz 2(.mv(.t 13))]) .ret)))⟩
noncomputable def Mw:CM:=⟨false,1,16,[.tmp 2],(.seq(rg false [oz 1(.box 27 18(.t 0)),oz 2(.mv(.k(.b false)))])(.seq(rg false [oz 3(.fa 0(.t 1)),oz 4(.ld true 17(.t 3)),oz 5(.call Ee [(.t 4)]),oz 6(.mv(.t 5)),⟨some 7,some(6,true), .fa 17(.t 1)⟩,⟨some 8,some(6,true), .ld false 1(.t 7)⟩,⟨some 9,some(6,true), .bin .geq(.t 8)(.k(.i .i64 1))⟩,oz 10(.pick(.t 6)(.t 9)(.k(.b false))),oz 11(.mv(.t 10)),⟨some 12,some(11,true), .fa 17(.t 1)⟩,⟨some 13,some(11,true), .ld false 1(.t 12)⟩,⟨some 14,some(11,true), .bin .leq(.t 13)(.k(.i .i64 65535))⟩,oz 15(.pick(.t 11)(.t 14)(.k(.b false))),oz 2(.mv(.t 15))]) .ret))⟩
noncomputable def Tk:AC:=(.seq(rg false [oz 42(.bin .lss(.t 41)(.t 40))])(.seq(.cond(.t 42) .skip(.exit 1))(.seq(.blk 2(.seq(rg false [oz 43(.ias 1(.t 39)(.t 41)),oz 44(.ld false 1(.t 43)),oz 7(.mv(.t 44))])(.seq(.seq(rg false [oz 45(.mv(.t 7)),oz 46(.lens(.t 45)),oz 47(.mv(.t 5)),oz 48(.bin .sub(.k(.i .i64 9223372036854775807))(.t 47)),oz 49(.bin .gtr(.t 46)(.t 48))])(.cond(.t 49)(rg false [oz 50(.mkif 9(.k(.s [115,116,114,105,110,103,115,58,32,74,111,105,110,32,111,117,116,112,117,116,32,108,101,110,103,116,104,32,111,118,101,114,102,108,111,119]))),on(.die)]) .skip))(rg false [oz 51(.mv(.t 5)),oz 52(.mv(.t 7)),oz 53(.lens(.t 52)),oz 54(.bin .add(.t 51)(.t 53)),oz 5(.mv(.t 54))]))))(rg false [oz 55(.bin .add(.t 41)(.k(.i .i64 1))),oz 41(.mv(.t 55))]))))
noncomputable def Tj:AC:=(.seq(rg false [oz 66(.bin .lss(.t 65)(.t 64))])(.seq(.cond(.t 66) .skip(.exit 3))(.seq(.blk 4(.seq(rg false [oz 67(.ias 1(.t 63)(.t 65)),oz 68(.ld false 1(.t 67)),oz 10(.mv(.t 68))])(.seq(rg false [oz 69(.mv(.t 1)),oz 70(.call Be [(.t 8),(.t 69)])])(rg false [oz 71(.mv(.t 10)),oz 72(.call Be [(.t 8),(.t 71)])]))))(rg false [oz 73(.bin .add(.t 65)(.k(.i .i64 1))),oz 65(.mv(.t 73))]))))
noncomputable def Jv:CM:=⟨false,2,75,[.tmp 4],(.seq(rg false [oz 4(.mv(.k(.s [])))])(.seq(.seq(rg false [oz 11(.mv(.t 0)),oz 12(.len(.t 11))])(.blk 0(.seq(rg false [oz 14(.bin .eql(.t 12)(.k(.i .i64 0))),oz 13(.mv(.t 14))])(.cond(.t 13)(.seq(rg false [oz 4(.mv(.k(.s [])))]) .ret)(.seq(rg false [oz 16(.bin .eql(.t 12)(.k(.i .i64 1))),oz 15(.mv(.t 16))])(.cond(.t 15)(.seq(rg false [oz 17(.mv(.t 0)),oz 18(.ias 1(.t 17)(.k(.i .i64 0))),oz 19(.ld false 1(.t 18)),oz 4(.mv(.t 19))]) .ret) .skip))))))(.seq(rg false [oz 5(.mv(.k(.i .i64 0)))])(.seq(.seq(rg false [oz 20(.mv(.t 1)),oz 21(.lens(.t 20)),oz 22(.bin .gtr(.t 21)(.k(.i .i64 0)))])(.cond(.t 22)(.seq(.seq(rg false [oz 23(.mv(.t 1)),oz 24(.lens(.t 23)),oz 25(.mv(.t 0)),oz 26(.len(.t 25)),oz 27(.bin .sub(.t 26)(.k(.i .i64 1))),oz 28(.bin .quo(.k(.i .i64 9223372036854775807))(.t 27)),oz 29(.bin .geq(.t 24)(.t 28))])(.cond(.t 29)(rg false [oz 30(.mkif 9(.k(.s [115,116,114,105,110,103,115,58,32,74,111,105,110,32,111,117,116,112,117,116,32,108,101,110,103,116,104,32,111,118,101,114,102,108,111,119]))),on(.die)]) .skip))(rg false [oz 31(.mv(.t 5)),oz 32(.mv(.t 1)),oz 33(.lens(.t 32)),oz 34(.mv(.t 0)),oz 35(.len(.t 34)),oz 36(.bin .sub(.t 35)(.k(.i .i64 1))),oz 37(.bin .mul(.t 33)(.t 36)),oz 38(.bin .add(.t 31)(.t 37)),oz 5(.mv(.t 38))])) .skip))(.seq(.seq(rg false [oz 39(.mv(.t 0)),oz 40(.len(.t 39)),oz 41(.mv(.k(.i .i64 0)))])(.blk 1(.loop [0,1,5,39,40,41]Tk)))(.seq(rg false [oz 8(.alloc 107(zz [(1, .nilp),(1, .nils)]))])(.seq(rg false [oz 56(.mv(.t 5)),oz 57(.call CX [(.t 8),(.t 56)])])
 (.seq(rg false [oz 58(.mv(.t 0)),oz 59(.ias 1(.t 58)(.k(.i .i64 0))),oz 60(.ld false 1(.t 59)),oz 61(.call Be [(.t 8),(.t 60)])])(.seq(.seq(rg false [oz 62(.mv(.t 0)),oz 63(.sll 1(.t 62)(some(.k(.i .i64 1)))none),oz 64(.len(.t 63)),oz 65(.mv(.k(.i .i64 0)))])(.blk 3(.loop [1,8,63,64,65]Tj)))(.seq(rg false [oz 74(.call BG [(.t 8)]),oz 4(.mv(.t 74))]) .ret))))))))))⟩
noncomputable def VU:AC:=(.seq(.seq(rg false [oz 5(.mv(.t 4)),oz 6(.mv(.t 0)),oz 7(.len(.t 6)),oz 8(.bin .lss(.t 5)(.t 7))])(.cond(.t 8) .skip(.exit 0)))(.seq(.blk 1(rg true [oz 11(.mv(.t 3)),oz 12(.mv(.t 0)),oz 13(.mv(.t 4)),oz 14(.ias 1(.t 12)(.t 13)),oz 15(.ld false 1(.t 14)),oz 16(.cvi .i64(.t 15)),oz 17(.bin .quo(.t 16)(.k(.i .i64 16))),oz 18(.call E6 [(.t 17)]),oz 19(.bin .add(.t 11)(.t 18)),oz 20(.mv(.t 0)),oz 21(.mv(.t 4)),oz 22(.ias 1(.t 20)(.t 21)),oz 23(.ld false 1(.t 22)),oz 24(.cvi .i64(.t 23)),oz 25(.bin .rem(.t 24)(.k(.i .i64 16))),oz 26(.call E6 [(.t 25)]),oz 27(.bin .add(.t 19)(.t 26)),oz 3(.mv(.t 27))]))(rg false [oz 9(.mv(.t 4)),oz 10(.bin .add(.t 9)(.k(.i .i64 1))),oz 4(.mv(.t 10))])))
noncomputable def Lu:CM:=⟨false,1,29,[.tmp 2],(.seq(rg false [oz 2(.mv(.k(.s [])))])(.seq(rg false [oz 3(.mv(.k(.s [])))])(.seq(.seq(rg false [oz 4(.mv(.k(.i .i64 0)))])(.blk 0(.loop [0,3,4]VU)))(.seq(rg false [oz 28(.mv(.t 3)),oz 2(.mv(.t 28))]) .ret))))⟩
noncomputable def Ya:AC:=(.seq(.seq(rg false [oz 5(.mv(.t 4)),oz 6(.bin .lss(.t 5)(.k(.i .i64 32)))])(.cond(.t 6) .skip(.exit 0)))(.seq(.blk 1(rg false [oz 9(.mv(.t 3)),oz 10(.mv(.t 4)),oz 11(.iaa 32 1(.t 1)(.t 10)),oz 12(.ld false 1(.t 11)),oz 13(.bll 1(List.replicate 1 T.u8.zc) [(0,(.t 12))]),oz 14(.app 5 1 1(.t 9)(.t 13)),oz 3(.mv(.t 14))]))(rg false [oz 7(.mv(.t 4)),oz 8(.bin .add(.t 7)(.k(.i .i64 1))),oz 4(.mv(.t 8))])))
noncomputable def M1:CM:=⟨false,1,16,[.tmp 2],(.seq(rg false [oz 1(.box 29 32(.t 0)),oz 2(.mv(.k(.nils)))])(.seq(rg false [oz 3(.mv(.k(.nils)))])(.seq(.seq(rg false [oz 4(.mv(.k(.i .i64 0)))])(.blk 0(.loop [1,3,4]Ya)))(.seq(rg false [oz 15(.mv(.t 3)),oz 2(.mv(.t 15))]) .ret))))⟩
noncomputable def OC:CM:=⟨false,1,28,[.tmp 2],(.seq(rg false [oz 1(.box 27 18(.t 0)),oz 2(.mv(.k(.s [])))])(.seq(.seq(rg false [oz 4(.ld true 18(.t 1)),oz 5(.call G2 [(.t 4)]),oz 6(.un .not(.t 5))])(.cond(.t 6)(.seq(rg false [oz 2(.mv(.k(.s [])))]) .ret) .skip))(.seq(rg false [oz 7(.fa 17(.t 1)),oz 8(.ld false 1(.t 7)),oz 9(.cvi .u64(.t 8)),oz 10(.call Df [(.t 9)]),oz 11(.bin .add(.k(.s [58]))(.t 10)),oz 3(.mv(.t 11))])(.seq(.seq(rg false [oz 12(.fa 0(.t 1)),oz 13(.fa 0(.t 12)),oz 14(.ld false 1(.t 13)),oz 15(.bin .eql(.t 14)(.k(.i .i64 6)))])(.cond(.t 15)(.seq(rg false [oz 16(.fa 0(.t 1)),oz 17(.ld true 17(.t 16)),oz 18(.call Gj [(.t 17)]),oz 19(.bin .add(.k(.s [91]))(.t 18)),oz 20(.bin .add(.t 19)(.k(.s [93]))),oz 21(.mv(.t 3)),oz 22(.bin .add(.t 20)(.t 21)),oz 2(.mv(.t 22))]) .ret) .skip))(.seq(rg false [oz 23(.fa 0(.t 1)),oz 24(.ld true 17(.t 23)),oz 25(.call Gj [(.t 24)]),oz 26(.mv(.t 3)),oz 27(.bin .add(.t 25)(.t 26)),oz 2(.mv(.t 27))]) .ret)))))⟩
noncomputable def OK:CM:=⟨false,1,18,[.tmp 2],(.seq(rg false [oz 2(.mv(.k(.s [])))])(.seq(rg false [oz 4(.mv(.t 0)),oz 5(.bin .rem(.t 4)(.k(.i .u64 10))),oz 6(.bin .add(.k(.i .u64 48))(.t 5)),oz 7(.cvi .u8(.t 6)),oz 8(.bls 5 1(List.replicate 1 T.u8.zc) [(0,(.t 7))]),oz 9(.cvs(.t 8)),oz 3(.mv(.t 9))])(.seq(.seq(rg false [oz 10(.mv(.t 0)),oz 11(.bin .lss(.t 10)(.k(.i .u64 10)))])(.cond(.t 11)(.seq(rg false [oz 12(.mv(.t 3)),oz 2(.mv(.t 12))]) .ret) .skip))(.seq(rg false [oz 13(.mv(.t 0)),oz 14(.bin .quo(.t 13)(.k(.i .u64 10))),oz 15(.call Df [(.t 14)]),oz 16(.mv(.t 3)),oz 17(.bin .add(.t 15)(.t 16)),oz 2(.mv(.t 17))]) .ret))))⟩
noncomputable def Yb:AC:=(.seq(.seq(rg false [oz 8(.mv(.t 7)),oz 9(.mv(.t 0)),oz 10(.lens(.t 9)),oz 11(.bin .lss(.t 8)(.t 10))])(.cond(.t 11) .skip(.exit 0)))(.seq(.blk 1(.seq(rg false [oz 14(.mv(.t 0)),oz 15(.mv(.t 7)),oz 16(.ixs(.t 14)(.t 15)),oz 17(.mv(.t 1)),oz 18(.bin .eql(.t 16)(.t 17))])(.cond(.t 18)(.seq(rg false [oz 19(.mv(.t 6)),oz 20(.mv(.t 0)),oz 21(.mv(.t 5)),oz 22(.mv(.t 7)),oz 23(.sls(.t 20)(some(.t 21))(some(.t 22))),oz 24(.bll 1(List.replicate 1 Ax.zc) [(0,(.t 23))]),oz 25(.app 9 1 16(.t 19)(.t 24)),oz 6(.mv(.t 25))])(rg false [oz 26(.mv(.t 7)),oz 27(.bin .add(.t 26)(.k(.i .i64 1))),oz 5(.mv(.t 27))])) .skip)))(rg false [oz 12(.mv(.t 7)),oz 13(.bin .add(.t 12)(.k(.i .i64 1))),oz 7(.mv(.t 13))])))
noncomputable def M2:CM:=⟨false,2,34,[.tmp 4],(.seq(rg false [oz 4(.mv(.k(.nils)))])(.seq(rg false [oz 5(.mv(.k(.i .i64 0)))])(.seq(rg false [oz 6(.mv(.k(.nils)))])(.seq(.seq(rg false [oz 7(.mv(.k(.i .i64 0)))])(.blk 0(.loop [0,1,5,6,7]Yb)))(.seq(rg false [oz 28(.mv(.t 6)),oz 29(.mv(.t 0)),oz 30(.mv(.t 5)),oz 31(.sls(.t 29)(some(.t 30))none),oz 32(.bll 1(List.replicate 1 Ax.zc) [(0,(.t 31))]),oz 33(.app 9 1 16(.t 28)(.t 32)),oz 4(.mv(.t 33))]) .ret)))))⟩
noncomputable def VV:AC:=(.seq(rg false [oz 9(.bin .lss(.t 8)(.t 7))])(.seq(.cond(.t 9) .skip(.exit 0))(.seq(.blk 1(.seq(rg false [oz 10(.ias 1(.t 6)(.t 8)),oz 11(.ld false 1(.t 10)),oz 5(.mv(.t 11))])(.seq(rg false [oz 12(.mv(.t 5)),oz 13(.call Be [(.t 3),(.t 12)])])(rg false [oz 14(.call Be [(.t 3),(.k(.s [10]))])]))))(rg false [oz 15(.bin .add(.t 8)(.k(.i .i64 1))),oz 8(.mv(.t 15))]))))
noncomputable def Lv:CM:=⟨false,1,17,[.tmp 2],(.seq(rg false [oz 2(.mv(.k(.s [])))])(.seq(rg false [oz 3(.alloc 107(zz [(1, .nilp),(1, .nils)]))])(.seq(.seq(rg false [oz 6(.mv(.t 0)),oz 7(.len(.t 6)),oz 8(.mv(.k(.i .i64 0)))])(.blk 0(.loop [3,6,7,8]VV)))(.seq(rg false [oz 16(.call BG [(.t 3)]),oz 2(.mv(.t 16))]) .ret))))⟩
noncomputable def VS:AC:=(.seq(rg false [oz 63(.bin .lss(.t 62)(.t 61))])(.seq(.cond(.t 63) .skip(.exit 2))(.seq(.blk 3(.seq(rg false [oz 64(.ias 18(.t 60)(.t 62)),oz 65(.ld true 18(.t 64)),oz 8(.alloc 91 Aj.zc),on(.st 18(.t 8)(.t 65))])(.seq(.seq(rg false [oz 66(.mv(.t 4)),oz 67(.ld true 18(.t 8)),oz 68(.lkp(.agg(kk [(1, .i .i64),(16, .i .u8),(1, .i .i64)]))(.b false)false(.t 66)(.t 67))])(.cond(.t 68)(.seq(rg false [oz 2(.mv(.k(.b false)))]) .ret) .skip))(rg false [oz 69(.mv(.t 4)),oz 70(.ld true 18(.t 8)),on(.mup(.agg(kk [(1, .i .i64),(16, .i .u8),(1, .i .i64)]))(.t 69)(.t 70)(.k(.b true)))]))))(rg false [oz 71(.bin .add(.t 62)(.k(.i .i64 1))),oz 62(.mv(.t 71))]))))
noncomputable def VR:AC:=(.seq(rg false [oz 27(.bin .lss(.t 26)(.t 25))])(.seq(.cond(.t 27) .skip(.exit 0))(.seq(.blk 1(.seq(rg false [oz 28(.ias 86(.t 24)(.t 26)),oz 29(.ld true 86(.t 28)),oz 6(.alloc 89 A5.zc),on(.st 86(.t 6)(.t 29))])(.seq(.seq(rg false [oz 30(.mv(.t 3)),oz 31(.fa 0(.t 6)),oz 32(.ld true 32(.t 31)),oz 33(.lkp(.agg(kk [(32, .i .u8)]))(.b false)false(.t 30)(.t 32)),oz 34(.mv(.t 33)),⟨some 35,some(34,false), .fa 82(.t 6)⟩,⟨some 36,some(34,false), .ld false 1(.t 35)⟩,⟨some 37,some(34,false), .call FB [(.t 36)]⟩,⟨some 38,some(34,false), .un .not(.t 37)⟩,oz 39(.pick(.t 34)(.k(.b true))(.t 38)),oz 40(.mv(.t 39)),⟨some 41,some(40,false), .fa 85(.t 6)⟩,⟨some 42,some(40,false), .ld false 1(.t 41)⟩,⟨some 43,some(40,false), .call FV [(.t 42)]⟩,⟨some 44,some(40,false), .un .not(.t 43)⟩,oz 45(.pick(.t 40)(.k(.b true))(.t 44))])(.cond(.t 45)(.seq(rg false [oz 2(.mv(.k(.b false)))]) .ret) .skip))(.seq(.seq(rg false [oz 46(.fa 64(.t 6)),oz 47(.ld true 18(.t 46)),oz 48(.call DX [(.t 47)]),oz 49(.un .not(.t 48)),oz 50(.mv(.t 49)),⟨some 51,some(50,true), .fa 64(.t 6)⟩,⟨some 52,some(50,true), .ld true 18(.t 51)⟩,⟨some 53,some(50,true), .call Dg [(.t 52)]⟩,⟨some 54,some(50,true), .un .not(.t 53)⟩,oz 55(.pick(.t 50)(.t 54)(.k(.b false)))])(.cond(.t 55)(.seq(rg false [oz 2(.mv(.k(.b false)))]) .ret) .skip))(.seq(rg false [oz 56(.mv(.t 3)),oz 57(.fa 0(.t 6)),oz 58(.ld true 32(.t 57)),on(.mup(.agg(kk [(32, .i .u8)]))(.t 56)(.t 58)(.k(.b true)))])(.seq(rg false [oz 59(.fa 85(.t 6)),oz 60(.ld false 1(.t 59)),oz 61(.len(.t 60)),oz 62(.mv(.k(.i .i64 0)))])
  (.blk 2(.loop [3,4,24,25,26,60,61,62]VS))))))))(rg false [oz 72(.bin .add(.t 26)(.k(.i .i64 1))),oz 26(.mv(.t 72))]))))
noncomputable def Ls:CM:=⟨false,1,76,[.tmp 2],(.seq(rg false [oz 1(.box 54 35(.t 0)),oz 2(.mv(.k(.b false)))])(.seq(.seq(rg false [oz 9(.fa 32(.t 1)),oz 10(.ld false 1(.t 9)),oz 11(.call FB [(.t 10)]),oz 12(.un .not(.t 11)),oz 13(.mv(.t 12)),⟨some 14,some(13,false), .fa 34(.t 1)⟩,⟨some 15,some(13,false), .ld false 1(.t 14)⟩,⟨some 16,some(13,false), .len(.t 15)⟩,⟨some 17,some(13,false), .bin .gtr(.t 16)(.k(.i .i64 16))⟩,oz 18(.pick(.t 13)(.k(.b true))(.t 17))])(.cond(.t 18)(.seq(rg false [oz 2(.mv(.k(.b false)))]) .ret) .skip))(.seq(rg false [oz 19(.mkm),oz 20(.bld(Ay 32 T.u8).zc []),on(.mup(.agg(kk [(32, .i .u8)]))(.t 19)(.t 20)(.k(.b true))),oz 21(.mv(.t 19)),oz 22(.mkm),oz 3(.mv(.t 21)),oz 4(.mv(.t 22))])(.seq(.seq(rg false [oz 23(.fa 34(.t 1)),oz 24(.ld false 1(.t 23)),oz 25(.len(.t 24)),oz 26(.mv(.k(.i .i64 0)))])(.blk 0(.loop [3,4,24,25,26]VR)))(.seq(rg false [oz 73(.mv(.t 4)),oz 74(.lenm(.t 73)),oz 75(.bin .leq(.t 74)(.k(.i .i64 64))),oz 2(.mv(.t 75))]) .ret)))))⟩
noncomputable def Uu:AC:=(.seq(rg false [oz 41(.bin .lss(.t 40)(.t 39))])(.seq(.cond(.t 41) .skip(.exit 0))(.seq(.blk 1(.seq(rg false [oz 42(.ias 18(.t 38)(.t 40)),oz 43(.ld true 18(.t 42)),oz 5(.alloc 91 Aj.zc),on(.st 18(.t 5)(.t 43))])(rg false [oz 44(.mv(.t 3)),oz 45(.ld true 18(.t 5)),oz 46(.bld Af.zc [(0,1,(.k(.i .i64 12))),(52,18,(.t 45))]),oz 47(.bll 70(List.replicate 1 Af.zc) [(0,(.t 46))]),oz 48(.app 93 70 112(.t 44)(.t 47)),oz 3(.mv(.t 48))])))(rg false [oz 49(.bin .add(.t 40)(.k(.i .i64 1))),oz 40(.mv(.t 49))]))))
noncomputable def Kp:CM:=⟨false,1,51,[.tmp 2],(.seq(rg false [oz 1(.box 89 86(.t 0)),oz 2(.mv(.k(.nils)))])(.seq(rg false [oz 6(.fa 0(.t 1)),oz 7(.ld true 32(.t 6)),oz 8(.bld Af.zc [(0,1,(.k(.i .i64 5))),(1,32,(.t 7))]),oz 9(.fa 32(.t 1)),oz 10(.ld true 32(.t 9)),oz 11(.bld Af.zc [(0,1,(.k(.i .i64 8))),(1,32,(.t 10))]),oz 12(.bld Af.zc [(0,1,(.k(.i .i64 13))),(33,1,(.k(.i .u64 1)))]),oz 13(.bls 93 70(List.replicate 3 Af.zc) [(0,(.t 8)),(1,(.t 11)),(2,(.t 12))]),oz 3(.mv(.t 13))])(.seq(.seq(rg false [oz 14(.fa 64(.t 1)),oz 15(.ld true 18(.t 14)),oz 16(.call DX [(.t 15)]),oz 17(.un .not(.t 16))])(.cond(.t 17)(rg false [oz 18(.mv(.t 3)),oz 19(.fa 64(.t 1)),oz 20(.ld true 18(.t 19)),oz 21(.bld Af.zc [(0,1,(.k(.i .i64 9))),(34,18,(.t 20))]),oz 22(.bll 70(List.replicate 1 Af.zc) [(0,(.t 21))]),oz 23(.app 93 70 112(.t 18)(.t 22)),oz 3(.mv(.t 23))]) .skip))(.seq(rg false [oz 24(.mv(.t 3)),oz 25(.fa 83(.t 1)),oz 26(.ld false 1(.t 25)),oz 27(.bld Af.zc [(0,1,(.k(.i .i64 14))),(33,1,(.t 26))]),oz 28(.fa 84(.t 1)),oz 29(.ld false 1(.t 28)),oz 30(.bld Af.zc [(0,1,(.k(.i .i64 15))),(33,1,(.t 29))]),oz 31(.fa 82(.t 1)),oz 32(.ld false 1(.t 31)),oz 33(.cvi .u64(.t 32)),oz 34(.bld Af.zc [(0,1,(.k(.i .i64 10))),(33,1,(.t 33))]),oz 35(.bll 70(List.replicate 3 Af.zc) [(0,(.t 27)),(1,(.t 30)),(2,(.t 34))]),oz 36(.app 93 70 112(.t 24)(.t 35)),oz 3(.mv(.t 36))])(.seq(.seq(rg false [oz 37(.fa 85(.t 1)),oz 38(.ld false 1(.t 37)),oz 39(.len(.t 38)),oz 40(.mv(.k(.i .i64 0)))])(.blk 0(.loop [3,38,39,40]Uu)))
 (.seq(rg false [oz 50(.mv(.t 3)),oz 2(.mv(.t 50))]) .ret))))))⟩
noncomputable def QP:AC:=(.seq(rg false [oz 15(.bin .lss(.t 14)(.t 13))])(.seq(.cond(.t 15) .skip(.exit 0))(.seq(.blk 1(.seq(rg false [oz 16(.ias 2(.t 12)(.t 14)),oz 17(.ld true 2(.t 16)),oz 6(.alloc 130 Au.zc),on(.st 2(.t 6)(.t 17))])(.seq(rg false [oz 19(.ld true 2(.t 6)),oz 20(.call EI [(.t 19)]),oz 18(.mv(.t 20)),oz 21(.ext(.t 18)0),oz 22(.ext(.t 18)1),oz 7(.mv(.t 21)),oz 8(.mv(.t 22))])(.seq(.seq(rg false [oz 23(.mv(.t 8)),oz 24(.bin .neq(.t 23)(.k(.i .i64 0)))])(.cond(.t 24)(.seq(rg false [oz 25(.mv(.t 8)),oz 2(.mv(.k(.s []))),oz 3(.mv(.t 25))]) .ret) .skip))(rg false [oz 26(.mv(.t 4)),oz 27(.mv(.t 7)),oz 28(.bll 1(List.replicate 1 Ax.zc) [(0,(.t 27))]),oz 29(.app 9 1 16(.t 26)(.t 28)),oz 4(.mv(.t 29))])))))(rg false [oz 30(.bin .add(.t 14)(.k(.i .i64 1))),oz 14(.mv(.t 30))]))))
noncomputable def HP:CM:=⟨false,1,35,[.tmp 2, .tmp 3],(.seq(rg false [oz 2(.mv(.k(.s []))),oz 3(.mv(.k(.i .i64 0)))])(.seq(.seq(rg false [oz 9(.mv(.t 0)),oz 10(.len(.t 9)),oz 11(.bin .gtr(.t 10)(.k(.i .i64 400)))])(.cond(.t 11)(.seq(rg false [oz 2(.mv(.k(.s []))),oz 3(.mv(.k(.i .i64 4)))]) .ret) .skip))(.seq(rg false [oz 4(.mv(.k(.nils)))])(.seq(.seq(rg false [oz 12(.mv(.t 0)),oz 13(.len(.t 12)),oz 14(.mv(.k(.i .i64 0)))])(.blk 0(.loop [4,12,13,14]QP)))(.seq(rg false [oz 31(.mv(.t 4)),oz 32(.bll 1(List.replicate 1 Ax.zc) [(0,(.k(.s [])))]),oz 33(.app 9 1 16(.t 31)(.t 32)),oz 34(.call GP [(.t 33)]),oz 2(.mv(.t 34)),oz 3(.mv(.k(.i .i64 0)))]) .ret)))))⟩
noncomputable def Tm:AC:=(.seq(rg false [oz 11(.bin .lss(.t 10)(.t 9))])(.seq(.cond(.t 11) .skip(.exit 0))(.seq(.blk 1(.seq(rg false [oz 12(.ias 70(.t 8)(.t 10)),oz 13(.ld true 70(.t 12)),oz 5(.alloc 93 Af.zc),on(.st 70(.t 5)(.t 13))])(.seq(rg false [oz 15(.ld true 70(.t 5)),oz 16(.call GQ [(.t 15)]),oz 14(.mv(.t 16)),oz 17(.ext(.t 14)0),oz 18(.ext(.t 14)1),oz 6(.alloc 130 Au.zc),on(.st 2(.t 6)(.t 17)),oz 7(.mv(.t 18))])(rg false [oz 19(.mv(.t 3)),oz 20(.ld true 2(.t 6)),oz 21(.bll 2(List.replicate 1 Au.zc) [(0,(.t 20))]),oz 22(.app 130 2 32(.t 19)(.t 21)),oz 3(.mv(.t 22))]))))(rg false [oz 23(.bin .add(.t 10)(.k(.i .i64 1))),oz 10(.mv(.t 23))]))))
noncomputable def Jx:CM:=⟨false,1,25,[.tmp 2],(.seq(rg false [oz 2(.mv(.k(.nils)))])(.seq(rg false [oz 3(.mv(.k(.nils)))])(.seq(.seq(rg false [oz 8(.mv(.t 0)),oz 9(.len(.t 8)),oz 10(.mv(.k(.i .i64 0)))])(.blk 0(.loop [3,8,9,10]Tm)))(.seq(rg false [oz 24(.mv(.t 3)),oz 2(.mv(.t 24))]) .ret))))⟩
noncomputable def O6:CM:=⟨false,1,13,[.tmp 2],(.seq(rg false [oz 1(.box 93 70(.t 0)),oz 2(.mv(.k(.s [])))])(.seq(rg false [oz 6(.ld true 70(.t 1)),oz 7(.call IU [(.t 6)]),oz 8(.call IV [(.t 7)]),oz 5(.mv(.t 8)),oz 9(.ext(.t 5)0),oz 10(.ext(.t 5)1),oz 3(.mv(.t 9)),oz 4(.mv(.t 10))])(.seq(rg false [oz 11(.mv(.t 3)),oz 12(.bin .add(.t 11)(.k(.s [10]))),oz 2(.mv(.t 12))]) .ret)))⟩
noncomputable def OB:CM:=⟨false,1,9,[.tmp 2],(.seq(rg false [oz 2(.mv(.k(.b false)))])(.seq(rg false [oz 3(.mv(.t 0)),oz 4(.bin .geq(.t 3)(.k(.i .i64 0))),oz 5(.mv(.t 4)),⟨some 6,some(5,true), .mv(.t 0)⟩,⟨some 7,some(5,true), .bin .leq(.t 6)(.k(.i .i64 65535))⟩,oz 8(.pick(.t 5)(.t 7)(.k(.b false))),oz 2(.mv(.t 8))]) .ret))⟩
noncomputable def Mx:CM:=⟨false,1,28,[.tmp 2],(.seq(rg false [oz 1(.box 91 18(.t 0)),oz 2(.mv(.k(.b false)))])(.seq(.seq(rg true [oz 3(.fa 0(.t 1)),oz 4(.ld true 17(.t 3)),oz 5(.call Ee [(.t 4)]),oz 6(.un .not(.t 5)),oz 7(.mv(.t 6)),⟨some 8,some(7,false), .fa 17(.t 1)⟩,⟨some 9,some(7,false), .ld false 1(.t 8)⟩,⟨some 10,some(7,false), .bin .lss(.t 9)(.k(.i .i64 0))⟩,oz 11(.pick(.t 7)(.k(.b true))(.t 10)),oz 12(.mv(.t 11)),⟨some 13,some(12,false), .fa 17(.t 1)⟩,⟨some 14,some(12,false), .ld false 1(.t 13)⟩,⟨some 15,some(12,false), .fa 0(.t 1)⟩,⟨some 16,some(12,false), .ld true 17(.t 15)⟩,⟨some 17,some(12,false), .call G4 [(.t 16)]⟩,⟨some 18,some(12,false), .bin .gtr(.t 14)(.t 17)⟩,oz 19(.pick(.t 12)(.k(.b true))(.t 18))])(.cond(.t 19)(.seq(rg false [oz 2(.mv(.k(.b false)))]) .ret) .skip))(.seq(rg true [oz 20(.fa 0(.t 1)),oz 21(.ld true 17(.t 20)),oz 22(.fa 0(.t 1)),oz 23(.ld true 17(.t 22)),oz 24(.fa 17(.t 1)),oz 25(.ld false 1(.t 24)),oz 26(.call IZ [(.t 23),(.t 25)]),oz 27(.eq false(.agg(kk [(1, .i .i64),(16, .i .u8)]))(.t 21)(.t 26)),oz 2(.mv(.t 27))]) .ret)))⟩
noncomputable def OE:CM:=⟨false,2,20,[.tmp 4],(.seq(rg false [oz 2(.box 91 18(.t 0)),oz 3(.box 91 18(.t 1)),oz 4(.mv(.k(.b false)))])(.seq(.seq(rg false [oz 5(.fa 0(.t 2)),oz 6(.ld true 17(.t 5)),oz 7(.fa 0(.t 3)),oz 8(.ld true 17(.t 7)),oz 9(.eq true(.agg(kk [(1, .i .i64),(16, .i .u8)]))(.t 6)(.t 8))])(.cond(.t 9)(.seq(rg false [oz 10(.fa 0(.t 2)),oz 11(.ld true 17(.t 10)),oz 12(.fa 0(.t 3)),oz 13(.ld true 17(.t 12)),oz 14(.call Ja [(.t 11),(.t 13)]),oz 4(.mv(.t 14))]) .ret) .skip))(.seq(rg false [oz 15(.fa 17(.t 2)),oz 16(.ld false 1(.t 15)),oz 17(.fa 17(.t 3)),oz 18(.ld false 1(.t 17)),oz 19(.bin .lss(.t 16)(.t 18)),oz 4(.mv(.t 19))]) .ret)))⟩
noncomputable def XZ:AC:=(.seq(.seq(rg false [oz 7(.mv(.t 3)),oz 8(.bin .lss(.t 7)(.k(.i .i64 16)))])(.cond(.t 8) .skip(.exit 0)))(.seq(.blk 1(.seq(rg false [oz 11(.mv(.t 3)),oz 12(.fa 1(.t 1)),oz 13(.iaa 16 1(.t 12)(.t 11)),oz 14(.ld false 1(.t 13)),oz 15(.bin .neq(.t 14)(.k(.i .u8 0)))])(.cond(.t 15)(.seq(rg false [oz 2(.mv(.k(.b false)))]) .ret) .skip)))(rg false [oz 9(.mv(.t 3)),oz 10(.bin .add(.t 9)(.k(.i .i64 1))),oz 3(.mv(.t 10))])))
noncomputable def M0:CM:=⟨false,1,19,[.tmp 2],(.seq(rg false [oz 1(.box 25 17(.t 0)),oz 2(.mv(.k(.b false)))])(.seq(.seq(rg false [oz 4(.fa 0(.t 1)),oz 5(.ld false 1(.t 4)),oz 6(.bin .eql(.t 5)(.k(.i .i64 6)))])(.cond(.t 6)(.seq(rg false [oz 2(.mv(.k(.b true)))]) .ret) .skip))(.seq(.seq(rg false [oz 3(.mv(.k(.i .i64 4)))])(.blk 0(.loop [1,3]XZ)))(.seq(rg false [oz 16(.fa 0(.t 1)),oz 17(.ld false 1(.t 16)),oz 18(.bin .eql(.t 17)(.k(.i .i64 4))),oz 2(.mv(.t 18))]) .ret))))⟩
noncomputable def FK:CM:=⟨false,2,25,[],(.seq(rg false [oz 4(.mv(.t 0)),oz 5(.call B4 [(.t 4)])])(.seq(.seq(rg false [oz 6(.mv(.t 1)),oz 7(.bin .lss(.t 6)(.k(.i .i64 0)))])(.cond(.t 7)(rg false [oz 8(.mkif 9(.k(.s [115,116,114,105,110,103,115,46,66,117,105,108,100,101,114,46,71,114,111,119,58,32,110,101,103,97,116,105,118,101,32,99,111,117,110,116]))),on(.die)]) .skip))(.seq(rg true [oz 9(.mv(.t 0)),oz 10(.nilc(.t 9)),oz 11(.fa 1(.t 10)),oz 12(.ld false 1(.t 11)),oz 13(.capn(.t 12)),oz 14(.mv(.t 0)),oz 15(.nilc(.t 14)),oz 16(.fa 1(.t 15)),oz 17(.ld false 1(.t 16)),oz 18(.len(.t 17)),oz 19(.bin .sub(.t 13)(.t 18)),oz 20(.mv(.t 1)),oz 21(.bin .lss(.t 19)(.t 20))])(.cond(.t 21)(rg false [oz 22(.mv(.t 0)),oz 23(.mv(.t 1)),oz 24(.call Fh [(.t 22),(.t 23)])]) .skip))))⟩
noncomputable def DM:CM:=⟨false,2,19,[.tmp 4, .tmp 5],(.seq(rg false [oz 4(.mv(.k(.i .i64 0))),oz 5(.mv(.k(.nili)))])(.seq(rg false [oz 6(.mv(.t 0)),oz 7(.call B4 [(.t 6)])])(.seq(rg false [oz 8(.mv(.t 0)),oz 9(.mv(.t 0)),oz 10(.nilc(.t 9)),oz 11(.fa 1(.t 10)),oz 12(.ld false 1(.t 11)),oz 13(.mv(.t 1)),oz 14(.app 5 1 1(.t 12)(.t 13)),oz 15(.nilc(.t 8)),oz 16(.fa 1(.t 15)),on(.st 1(.t 16)(.t 14))])(.seq(rg false [oz 17(.mv(.t 1)),oz 18(.lens(.t 17)),oz 4(.mv(.t 18)),oz 5(.mv(.k(.nili)))]) .ret))))⟩
noncomputable def EY:CM:=⟨false,1,14,[.tmp 2],(.seq(rg false [oz 2(.mv(.k(.s [])))])(.seq(.regd [oz 3(.mv(.t 0)),oz 4(.nilc(.t 3)),oz 5(.fa 1(.t 4)),oz 6(.ld false 1(.t 5)),oz 7(.usd(.t 6)),oz 8(.mv(.t 0)),oz 9(.nilc(.t 8)),oz 10(.fa 1(.t 9)),oz 11(.ld false 1(.t 10)),oz 12(.len(.t 11)),oz 13(.ust 5(.t 7)(.t 12)),oz 2(.mv(.t 13))] [some(0,0),some(0,0),some(0,0),some(0,0),some(0,0),some(0,0),some(0,0),some(0,0),some(0,0),some(0,0),none,some(1,1)]) .ret))⟩
noncomputable def M4:CM:=⟨false,1,7,[.tmp 2],(.seq(rg false [oz 2(.mv(.k(.s [])))])(.seq(rg false [oz 3(.mv(.t 0)),oz 4(.mv(.t 0)),oz 5(.bin .add(.t 4)(.k(.i .i64 1))),oz 6(.sls(.k(.s [48,49,50,51,52,53,54,55,56,57,97,98,99,100,101,102]))(some(.t 3))(some(.t 5))),oz 2(.mv(.t 6))]) .ret))⟩
noncomputable def OF:CM:=⟨false,1,26,[.tmp 2],(.seq(rg false [oz 1(.box 25 17(.t 0)),oz 2(.mv(.k(.s [])))])(.seq(.seq(rg false [oz 3(.ld true 17(.t 1)),oz 4(.call Ee [(.t 3)]),oz 5(.un .not(.t 4))])(.cond(.t 5)(.seq(rg false [oz 2(.mv(.k(.s [])))]) .ret) .skip))(.seq(.seq(rg false [oz 6(.fa 0(.t 1)),oz 7(.ld false 1(.t 6)),oz 8(.bin .eql(.t 7)(.k(.i .i64 6)))])(.cond(.t 8)(.seq(rg false [oz 9(.fa 1(.t 1)),oz 10(.ld true 16(.t 9)),oz 11(.call Jb [(.t 10)]),oz 2(.mv(.t 11))]) .ret) .skip))(.seq(rg false [oz 12(.fa 1(.t 1)),oz 13(.iaa 16 1(.t 12)(.k(.i .i64 0))),oz 14(.ld false 1(.t 13)),oz 15(.fa 1(.t 1)),oz 16(.iaa 16 1(.t 15)(.k(.i .i64 1))),oz 17(.ld false 1(.t 16)),oz 18(.fa 1(.t 1)),oz 19(.iaa 16 1(.t 18)(.k(.i .i64 2))),oz 20(.ld false 1(.t 19)),oz 21(.fa 1(.t 1)),oz 22(.iaa 16 1(.t 21)(.k(.i .i64 3))),oz 23(.ld false 1(.t 22)),oz 24(.bld(Ay 4 T.u8).zc [(0,1,(.t 14)),(1,1,(.t 17)),(2,1,(.t 20)),(3,1,(.t 23))]),oz 25(.call Jc [(.t 24)]),oz 2(.mv(.t 25))]) .ret))))⟩
noncomputable def Lr:CM:=⟨false,1,9,[.tmp 2],(.seq(rg false [oz 2(.mv(.k(.b false)))])(.seq(rg false [oz 3(.mv(.t 0)),oz 4(.bin .geq(.t 3)(.k(.i .i64 0))),oz 5(.mv(.t 4)),⟨some 6,some(5,true), .mv(.t 0)⟩,⟨some 7,some(5,true), .bin .leq(.t 6)(.k(.i .i64 65535))⟩,oz 8(.pick(.t 5)(.t 7)(.k(.b false))),oz 2(.mv(.t 8))]) .ret))⟩
noncomputable def Us:AC:=(.seq(rg false [oz 8(.bin .lss(.t 7)(.t 6))])(.seq(.cond(.t 8) .skip(.exit 0))(.seq(.blk 1(.seq(rg false [oz 9(.mv(.t 7)),oz 10(.ias 18(.t 5)(.t 7)),oz 11(.ld true 18(.t 10)),oz 4(.alloc 91 Aj.zc),oz 3(.mv(.t 9)),on(.st 18(.t 4)(.t 11))])(.seq(rg true [oz 12(.ld true 18(.t 4)),oz 13(.call EF [(.t 12)]),oz 14(.un .not(.t 13)),oz 15(.mv(.t 14)),⟨some 16,some(15,false), .mv(.t 3)⟩,⟨some 17,some(15,false), .bin .gtr(.t 16)(.k(.i .i64 0))⟩,⟨some 18,some(15,false), .mv(.t 17)⟩,⟨some 19,some(18,true), .mv(.t 0)⟩,⟨some 20,some(18,true), .mv(.t 3)⟩,⟨some 21,some(18,true), .bin .sub(.t 20)(.k(.i .i64 1))⟩,⟨some 22,some(18,true), .ias 18(.t 19)(.t 21)⟩,⟨some 23,some(18,true), .ld true 18(.t 22)⟩,⟨some 24,some(18,true), .ld true 18(.t 4)⟩,⟨some 25,some(18,true), .call HJ [(.t 23),(.t 24)]⟩,⟨some 26,some(18,true), .un .not(.t 25)⟩,⟨some 27,some(15,false), .pick(.t 18)(.t 26)(.k(.b false))⟩,oz 28(.pick(.t 15)(.k(.b true))(.t 27))])(.cond(.t 28)(.seq(rg false [oz 2(.mv(.k(.b false)))]) .ret) .skip))))(rg false [oz 29(.bin .add(.t 7)(.k(.i .i64 1))),oz 7(.mv(.t 29))]))))
noncomputable def Km:CM:=⟨false,1,30,[.tmp 2],(.seq(rg false [oz 2(.mv(.k(.b false)))])(.seq(.seq(rg false [oz 5(.mv(.t 0)),oz 6(.len(.t 5)),oz 7(.mv(.k(.i .i64 0)))])(.blk 0(.loop [0,5,6,7]Us)))(.seq(rg false [oz 2(.mv(.k(.b true)))]) .ret)))⟩
noncomputable def Iw:CM:=⟨false,1,6,[.tmp 2],(.seq(rg false [oz 1(.box 27 18(.t 0)),oz 2(.mv(.k(.b false)))])(.seq(rg false [oz 3(.ld true 18(.t 1)),oz 4(.bld Ao.zc []),oz 5(.eq false(.agg(kk [(1, .i .i64),(16, .i .u8),(1, .i .i64)]))(.t 3)(.t 4)),oz 2(.mv(.t 5))]) .ret))⟩
noncomputable def HQ:CM:=⟨false,1,16,[.tmp 2],(.seq(rg false [oz 1(.box 27 18(.t 0)),oz 2(.mv(.k(.b false)))])(.seq(rg false [oz 3(.fa 0(.t 1)),oz 4(.ld true 17(.t 3)),oz 5(.call D9 [(.t 4)]),oz 6(.mv(.t 5)),⟨some 7,some(6,true), .fa 17(.t 1)⟩,⟨some 8,some(6,true), .ld false 1(.t 7)⟩,⟨some 9,some(6,true), .bin .geq(.t 8)(.k(.i .i64 1))⟩,oz 10(.pick(.t 6)(.t 9)(.k(.b false))),oz 11(.mv(.t 10)),⟨some 12,some(11,true), .fa 17(.t 1)⟩,⟨some 13,some(11,true), .ld false 1(.t 12)⟩,⟨some 14,some(11,true), .bin .leq(.t 13)(.k(.i .i64 65535))⟩,oz 15(.pick(.t 11)(.t 14)(.k(.b false))),oz 2(.mv(.t 15))]) .ret))⟩
noncomputable def Iu:CM:=⟨false,1,28,[.tmp 2, .tmp 3],(.seq(rg false [oz 1(.box 130 2(.t 0)),oz 2(.mv(.k(.s []))),oz 3(.mv(.k(.i .i64 0)))])(.seq(.seq(rg false [oz 5(.fa 0(.t 1)),oz 6(.ld false 1(.t 5)),oz 7(.bin .eql(.t 6)(.k(.s []))),oz 8(.mv(.t 7)),⟨some 9,some(8,false), .fa 0(.t 1)⟩,⟨some 10,some(8,false), .ld false 1(.t 9)⟩,⟨some 11,some(8,false), .call CP [(.t 10),(.k(.s [61,10]))]⟩,oz 12(.pick(.t 8)(.k(.b true))(.t 11)),oz 13(.mv(.t 12)),⟨some 14,some(13,false), .fa 1(.t 1)⟩,⟨some 15,some(13,false), .ld false 1(.t 14)⟩,⟨some 16,some(13,false), .call DH [(.t 15),(.k(.s [10]))]⟩,oz 17(.pick(.t 13)(.k(.b true))(.t 16))])(.cond(.t 17)(.seq(rg false [oz 2(.mv(.k(.s []))),oz 3(.mv(.k(.i .i64 5)))]) .ret) .skip))(.seq(rg false [oz 18(.fa 0(.t 1)),oz 19(.ld false 1(.t 18)),oz 20(.bin .add(.t 19)(.k(.s [61]))),oz 21(.fa 1(.t 1)),oz 22(.ld false 1(.t 21)),oz 23(.bin .add(.t 20)(.t 22)),oz 4(.mv(.t 23))])(.seq(.seq(rg false [oz 24(.mv(.t 4)),oz 25(.lens(.t 24)),oz 26(.bin .gtr(.t 25)(.k(.i .i64 512)))])(.cond(.t 26)(.seq(rg false [oz 2(.mv(.k(.s []))),oz 3(.mv(.k(.i .i64 4)))]) .ret) .skip))(.seq(rg false [oz 27(.mv(.t 4)),oz 2(.mv(.t 27)),oz 3(.mv(.k(.i .i64 0)))]) .ret)))))⟩
noncomputable def Lw:CM:=⟨false,1,24,[.cell true 2 2, .tmp 3],(.seq(rg false [oz 1(.box 93 70(.t 0)),oz 2(.alloc 130 Au.zc),oz 3(.mv(.k(.i .i64 0)))])(.seq(.seq(rg false [oz 6(.ld true 70(.t 1)),oz 7(.call Ga [(.t 6)]),oz 8(.un .not(.t 7))])(.cond(.t 8)(.seq(rg false [oz 9(.bld Au.zc []),on(.st 2(.t 2)(.t 9)),oz 3(.mv(.k(.i .i64 1)))]) .ret) .skip))(.seq(.regd [oz 11(.fa 0(.t 1)),oz 12(.ld false 1(.t 11)),oz 13(.call EL [(.t 12)]),oz 14(.fld false 1 1(.t 13)),oz 15(.ld true 70(.t 1)),oz 16(.callv(.t 14) [(.t 15)]),oz 10(.mv(.t 16)),oz 17(.ext(.t 10)0),oz 18(.ext(.t 10)1),oz 4(.mv(.t 17)),oz 5(.mv(.t 18))] [some(0,0),some(0,0),none,some(1,1),some(0,1),none,some(2,2),some(2,2),some(2,2),some(2,2),some(2,2)])(.seq(rg false [oz 19(.fa 0(.t 1)),oz 20(.ld false 1(.t 19)),oz 21(.call FF [(.t 20)]),oz 22(.mv(.t 4)),oz 23(.bld Au.zc [(0,1,(.t 21)),(1,1,(.t 22))]),on(.st 2(.t 2)(.t 23)),oz 3(.mv(.k(.i .i64 0)))]) .ret))))⟩
noncomputable def OA:CM:=⟨false,1,33,[.tmp 2, .tmp 3],(.seq(rg false [oz 1(.box 136 2(.t 0)),oz 2(.mv(.k(.s []))),oz 3(.mv(.k(.i .i64 0)))])(.seq(.seq(rg false [oz 5(.fa 0(.t 1)),oz 6(.ld false 1(.t 5)),oz 7(.bin .eql(.t 6)(.k(.s []))),oz 8(.mv(.t 7)),⟨some 9,some(8,false), .fa 0(.t 1)⟩,⟨some 10,some(8,false), .ld false 1(.t 9)⟩,⟨some 11,some(8,false), .call Hm [(.t 10),(.k(.i .u8 61))]⟩,oz 12(.pick(.t 8)(.k(.b true))(.t 11)),oz 13(.mv(.t 12)),⟨some 14,some(13,false), .fa 0(.t 1)⟩,⟨some 15,some(13,false), .ld false 1(.t 14)⟩,⟨some 16,some(13,false), .call Hm [(.t 15),(.k(.i .u8 10))]⟩,oz 17(.pick(.t 13)(.k(.b true))(.t 16)),oz 18(.mv(.t 17)),⟨some 19,some(18,false), .fa 1(.t 1)⟩,⟨some 20,some(18,false), .ld false 1(.t 19)⟩,⟨some 21,some(18,false), .call Hm [(.t 20),(.k(.i .u8 10))]⟩,oz 22(.pick(.t 18)(.k(.b true))(.t 21))])(.cond(.t 22)(.seq(rg false [oz 2(.mv(.k(.s []))),oz 3(.mv(.k(.i .i64 5)))]) .ret) .skip))(.seq(rg false [oz 23(.fa 0(.t 1)),oz 24(.ld false 1(.t 23)),oz 25(.bin .add(.t 24)(.k(.s [61]))),oz 26(.fa 1(.t 1)),oz 27(.ld false 1(.t 26)),oz 28(.bin .add(.t 25)(.t 27)),oz 4(.mv(.t 28))])(.seq(.seq(rg false [oz 29(.mv(.t 4)),oz 30(.lens(.t 29)),oz 31(.bin .gtr(.t 30)(.k(.i .i64 512)))])(.cond(.t 31)(.seq(rg false [oz 2(.mv(.k(.s []))),oz 3(.mv(.k(.i .i64 4)))]) .ret) .skip))(.seq(rg false [oz 32(.mv(.t 4)),oz 2(.mv(.t 32)),oz 3(.mv(.k(.i .i64 0)))]) .ret)))))⟩
noncomputable def O9:CM:=⟨false,1,37,[.cell true 2 2],(.seq(rg false [oz 1(.box 93 70(.t 0)),oz 2(.alloc 136 C5.zc)])(.seq(rg false [oz 3(.mv(.k(.s [116,114,117,101])))])(.seq(.seq(rg false [oz 4(.fa 0(.t 1)),oz 5(.ld false 1(.t 4)),oz 6(.call JU [(.t 5)])])(.cond(.t 6)(rg false [oz 7(.fa 1(.t 1)),oz 8(.ld true 32(.t 7)),oz 9(.call HD [(.t 8)]),oz 10(.call GO [(.t 9)]),oz 3(.mv(.t 10))])(.seq(rg false [oz 11(.fa 0(.t 1)),oz 12(.ld false 1(.t 11)),oz 13(.bin .eql(.t 12)(.k(.i .i64 9)))])(.cond(.t 13)(rg false [oz 14(.fa 34(.t 1)),oz 15(.ld true 18(.t 14)),oz 16(.call IW [(.t 15)]),oz 3(.mv(.t 16))])(.seq(rg false [oz 17(.fa 0(.t 1)),oz 18(.ld false 1(.t 17)),oz 19(.bin .eql(.t 18)(.k(.i .i64 12)))])(.cond(.t 19)(rg false [oz 20(.fa 52(.t 1)),oz 21(.ld true 18(.t 20)),oz 22(.call IX [(.t 21)]),oz 3(.mv(.t 22))])(.seq(rg false [oz 23(.fa 0(.t 1)),oz 24(.ld false 1(.t 23)),oz 25(.call IS [(.t 24)]),oz 26(.un .not(.t 25))])(.cond(.t 26)(rg false [oz 27(.fa 33(.t 1)),oz 28(.ld false 1(.t 27)),oz 29(.call Df [(.t 28)]),oz 3(.mv(.t 29))]) .skip))))))))(.seq(.regd [oz 30(.call H9 []),oz 31(.fa 0(.t 1)),oz 32(.ld false 1(.t 31)),oz 33(.ias 1(.t 30)(.t 32)),oz 34(.ld false 1(.t 33)),oz 35(.mv(.t 3)),oz 36(.bld C5.zc [(0,1,(.t 34)),(1,1,(.t 35))]),on(.st 2(.t 2)(.t 36))] [some(0,0),some(0,0),some(0,0),some(0,0),some(0,0),some(0,0),some(0,0),none]) .ret))))⟩
noncomputable def Mz:CM:=⟨false,1,9,[.tmp 2],(.seq(rg false [oz 1(.box 25 17(.t 0)),oz 2(.mv(.k(.i .i64 0)))])(.seq(.seq(rg false [oz 3(.ld true 17(.t 1)),oz 4(.call Ee [(.t 3)]),oz 5(.un .not(.t 4))])(.cond(.t 5)(.seq(rg false [oz 2(.mv(.k(.i .i64 0)))]) .ret) .skip))(.seq(.seq(rg false [oz 6(.fa 0(.t 1)),oz 7(.ld false 1(.t 6)),oz 8(.bin .eql(.t 7)(.k(.i .i64 4)))])(.cond(.t 8)(.seq(rg false [oz 2(.mv(.k(.i .i64 32)))]) .ret) .skip))(.seq(rg false [oz 2(.mv(.k(.i .i64 128)))]) .ret))))⟩
noncomputable def Zp:AC:=(.seq(.seq(rg false [oz 33(.mv(.t 9)),oz 34(.mv(.t 7)),oz 35(.bin .rem(.t 34)(.k(.i .i64 8))),oz 36(.bin .lss(.t 33)(.t 35))])(.cond(.t 36) .skip(.exit 2)))(.seq(.blk 3(rg false [oz 39(.mv(.t 8)),oz 40(.bin .quo(.t 39)(.k(.i .i64 2))),oz 8(.mv(.t 40))]))(rg false [oz 37(.mv(.t 9)),oz 38(.bin .add(.t 37)(.k(.i .i64 1))),oz 9(.mv(.t 38))])))
noncomputable def Zo:AC:=(.seq(.seq(rg false [oz 19(.mv(.t 7)),oz 20(.mv(.t 6)),oz 21(.bin .lss(.t 19)(.t 20)),oz 22(.mv(.t 21)),⟨some 23,some(22,true), .mv(.t 7)⟩,⟨some 24,some(22,true), .mv(.t 1)⟩,⟨some 25,some(22,true), .bin .lss(.t 23)(.t 24)⟩,oz 26(.pick(.t 22)(.t 25)(.k(.b false)))])(.cond(.t 26) .skip(.exit 0)))(.seq(.blk 1(.seq(rg false [oz 29(.ld true 17(.t 2)),oz 30(.mv(.t 7)),oz 31(.call HC [(.t 29),(.t 30)]),oz 32(.bin .eql(.t 31)(.k(.i .i64 1)))])(.cond(.t 32)(.seq(rg false [oz 8(.mv(.k(.i .i64 128)))])(.seq(.seq(rg false [oz 9(.mv(.k(.i .i64 0)))])(.blk 2(.loop [1,2,4,5,6,7,8,9]Zp)))(rg false [oz 41(.mv(.t 7)),oz 42(.bin .quo(.t 41)(.k(.i .i64 8))),oz 43(.mv(.t 7)),oz 44(.bin .quo(.t 43)(.k(.i .i64 8))),oz 45(.fa 1(.t 5)),oz 46(.iaa 16 1(.t 45)(.t 44)),oz 47(.ld false 1(.t 46)),oz 48(.mv(.t 8)),oz 49(.cvi .u8(.t 48)),oz 50(.bin .add(.t 47)(.t 49)),oz 51(.fa 1(.t 5)),oz 52(.iaa 16 1(.t 51)(.t 42)),on(.st 1(.t 52)(.t 50))]))) .skip)))(rg false [oz 27(.mv(.t 7)),oz 28(.bin .add(.t 27)(.k(.i .i64 1))),oz 7(.mv(.t 28))])))
noncomputable def OG:CM:=⟨false,2,54,[.cell true 17 4],(.seq(rg false [oz 2(.box 25 17(.t 0)),oz 4(.alloc 25 Ak.zc)])(.seq(.seq(rg false [oz 10(.ld true 17(.t 2)),oz 11(.call Ee [(.t 10)]),oz 12(.un .not(.t 11))])(.cond(.t 12)(.seq(rg false [oz 13(.bld Ak.zc []),on(.st 17(.t 4)(.t 13))]) .ret) .skip))(.seq(rg false [oz 14(.fa 0(.t 2)),oz 15(.ld false 1(.t 14)),oz 16(.bld Ak.zc [(0,1,(.t 15))]),oz 5(.alloc 25 Ak.zc),on(.st 17(.t 5)(.t 16))])(.seq(rg false [oz 17(.ld true 17(.t 2)),oz 18(.call G4 [(.t 17)]),oz 6(.mv(.t 18))])(.seq(.seq(rg false [oz 7(.mv(.k(.i .i64 0)))])(.blk 0(.loop [1,2,4,5,6,7]Zo)))(.seq(rg false [oz 53(.ld true 17(.t 5)),on(.st 17(.t 4)(.t 53))]) .ret))))))⟩
noncomputable def Zq:AC:=(.seq(.seq(rg false [oz 16(.mv(.t 5)),oz 17(.bin .lss(.t 16)(.k(.i .i64 16)))])(.cond(.t 17) .skip(.exit 0)))(.seq(.blk 1(.seq(rg true [oz 20(.mv(.t 5)),oz 21(.fa 1(.t 2)),oz 22(.iaa 16 1(.t 21)(.t 20)),oz 23(.ld false 1(.t 22)),oz 24(.mv(.t 5)),oz 25(.fa 1(.t 3)),oz 26(.iaa 16 1(.t 25)(.t 24)),oz 27(.ld false 1(.t 26)),oz 28(.bin .neq(.t 23)(.t 27))])(.cond(.t 28)(.seq(rg true [oz 29(.mv(.t 5)),oz 30(.fa 1(.t 2)),oz 31(.iaa 16 1(.t 30)(.t 29)),oz 32(.ld false 1(.t 31)),oz 33(.mv(.t 5)),oz 34(.fa 1(.t 3)),oz 35(.iaa 16 1(.t 34)(.t 33)),oz 36(.ld false 1(.t 35)),oz 37(.bin .lss(.t 32)(.t 36)),oz 4(.mv(.t 37))]) .ret) .skip)))(rg false [oz 18(.mv(.t 5)),oz 19(.bin .add(.t 18)(.k(.i .i64 1))),oz 5(.mv(.t 19))])))
noncomputable def OH:CM:=⟨false,2,38,[.tmp 4],(.seq(rg false [oz 2(.box 25 17(.t 0)),oz 3(.box 25 17(.t 1)),oz 4(.mv(.k(.b false)))])(.seq(.seq(rg false [oz 6(.fa 0(.t 2)),oz 7(.ld false 1(.t 6)),oz 8(.fa 0(.t 3)),oz 9(.ld false 1(.t 8)),oz 10(.bin .neq(.t 7)(.t 9))])(.cond(.t 10)(.seq(rg false [oz 11(.fa 0(.t 2)),oz 12(.ld false 1(.t 11)),oz 13(.fa 0(.t 3)),oz 14(.ld false 1(.t 13)),oz 15(.bin .lss(.t 12)(.t 14)),oz 4(.mv(.t 15))]) .ret) .skip))(.seq(.seq(rg false [oz 5(.mv(.k(.i .i64 0)))])(.blk 0(.loop [2,3,5]Zq)))(.seq(rg false [oz 4(.mv(.k(.b false)))]) .ret))))⟩
noncomputable def Tl:AC:=(.seq(rg false [oz 9(.bin .lss(.t 8)(.t 7))])(.seq(.cond(.t 9) .skip(.exit 0))(.seq(.blk 1(.seq(rg false [oz 10(.ias 1(.t 6)(.t 8)),oz 11(.ld false 1(.t 10)),oz 5(.mv(.t 11))])(.seq(rg false [oz 12(.mv(.t 5)),oz 13(.bin .shr(.t 12)(.k(.i .u64 4))),oz 14(.ixs(.k(.s [48,49,50,51,52,53,54,55,56,57,97,98,99,100,101,102]))(.t 13)),oz 15(.call BK [(.t 3),(.t 14)])])(rg false [oz 16(.mv(.t 5)),oz 17(.bin .and(.t 16)(.k(.i .u8 15))),oz 18(.ixs(.k(.s [48,49,50,51,52,53,54,55,56,57,97,98,99,100,101,102]))(.t 17)),oz 19(.call BK [(.t 3),(.t 18)])]))))(rg false [oz 20(.bin .add(.t 8)(.k(.i .i64 1))),oz 8(.mv(.t 20))]))))
noncomputable def Jw:CM:=⟨false,1,22,[.tmp 2],(.seq(rg false [oz 2(.mv(.k(.s [])))])(.seq(rg false [oz 3(.alloc 107(zz [(1, .nilp),(1, .nils)]))])(.seq(.seq(rg false [oz 6(.mv(.t 0)),oz 7(.len(.t 6)),oz 8(.mv(.k(.i .i64 0)))])(.blk 0(.loop [3,6,7,8]Tl)))(.seq(rg false [oz 21(.call BG [(.t 3)]),oz 2(.mv(.t 21))]) .ret))))⟩
noncomputable def Iv:CM:=⟨false,1,28,[.tmp 2],(.seq(rg false [oz 1(.box 27 18(.t 0)),oz 2(.mv(.k(.s [])))])(.seq(.seq(rg false [oz 4(.ld true 18(.t 1)),oz 5(.call Dg [(.t 4)]),oz 6(.un .not(.t 5))])(.cond(.t 6)(.seq(rg false [oz 2(.mv(.k(.s [])))]) .ret) .skip))(.seq(rg false [oz 7(.fa 17(.t 1)),oz 8(.ld false 1(.t 7)),oz 9(.cvi .u64(.t 8)),oz 10(.call Dn [(.t 9)]),oz 3(.mv(.t 10))])(.seq(.seq(rg false [oz 11(.fa 0(.t 1)),oz 12(.ld true 17(.t 11)),oz 13(.call FG [(.t 12)]),oz 14(.bin .gtr(.t 13)(.k(.i .i64 32)))])(.cond(.t 14)(.seq(rg false [oz 15(.fa 0(.t 1)),oz 16(.ld true 17(.t 15)),oz 17(.call Fx [(.t 16)]),oz 18(.bin .add(.k(.s [91]))(.t 17)),oz 19(.bin .add(.t 18)(.k(.s [93,58]))),oz 20(.mv(.t 3)),oz 21(.bin .add(.t 19)(.t 20)),oz 2(.mv(.t 21))]) .ret) .skip))(.seq(rg false [oz 22(.fa 0(.t 1)),oz 23(.ld true 17(.t 22)),oz 24(.call Fx [(.t 23)]),oz 25(.bin .add(.t 24)(.k(.s [58]))),oz 26(.mv(.t 3)),oz 27(.bin .add(.t 25)(.t 26)),oz 2(.mv(.t 27))]) .ret)))))⟩
noncomputable def OL:CM:=⟨false,1,5,[.tmp 2],(.seq(rg false [oz 1(.box 29 32(.t 0)),oz 2(.mv(.k(.s [])))])(.seq(rg false [oz 3(.sla 32 1(.t 1)none none),oz 4(.call Fi [(.t 3)]),oz 2(.mv(.t 4))]) .ret))⟩
noncomputable def J3:CM:=⟨false,1,5,[.tmp 2],(.seq(rg false [oz 2(.mv(.k(.s [])))])(.seq(rg false [oz 3(.mv(.t 0)),oz 4(.call Dk [(.t 3),(.k(.i .i64 10))]),oz 2(.mv(.t 4))]) .ret))⟩
noncomputable def Er:CM:=⟨false,1,20,[],(.seq(rg false [oz 2(.mv(.t 0)),oz 3(.nilc(.t 2)),oz 4(.fa 0(.t 3)),oz 5(.ld false 1(.t 4)),oz 6(.eq false .p(.t 5)(.k(.nilp)))])(.cond(.t 6)(rg false [oz 7(.mv(.t 0)),oz 8(.mv(.t 0)),oz 9(.cvp(.t 8)),oz 10(.call FE [(.t 9)]),oz 11(.cvu 107 2(.t 10)),oz 12(.nilc(.t 7)),oz 13(.fa 0(.t 12)),on(.st 1(.t 13)(.t 11))])(.seq(rg false [oz 14(.mv(.t 0)),oz 15(.nilc(.t 14)),oz 16(.fa 0(.t 15)),oz 17(.ld false 1(.t 16)),oz 18(.mv(.t 0)),oz 19(.eqp true(.t 17)(.t 18))])(.cond(.t 19) .stop .skip))))⟩
noncomputable def FS:CM:=⟨false,2,8,[.tmp 4],(.seq(rg false [oz 4(.mv(.k(.i .i64 0)))])(.seq(rg false [oz 5(.mv(.t 0)),oz 6(.mv(.t 1)),oz 7(.call Bj [(.t 5),(.t 6)]),oz 4(.mv(.t 7))]) .ret))⟩
noncomputable def Zr:AC:=(.seq(.seq(rg false [oz 9(.mv(.t 6)),oz 10(.bin .lss(.t 9)(.k(.i .i64 8)))])(.cond(.t 10) .skip(.exit 0)))(.seq(.blk 1(.seq(rg false [oz 13(.ld true 8(.t 3)),oz 14(.mv(.t 6)),oz 15(.call IF [(.t 13),(.t 14)]),oz 16(.mv(.t 5)),oz 17(.bin .gtr(.t 15)(.t 16))])(.cond(.t 17)(.seq(rg false [oz 18(.mv(.t 6)),oz 4(.mv(.t 18))])(rg false [oz 19(.ld true 8(.t 3)),oz 20(.mv(.t 6)),oz 21(.call IF [(.t 19),(.t 20)]),oz 5(.mv(.t 21))])) .skip)))(rg false [oz 11(.mv(.t 6)),oz 12(.bin .add(.t 11)(.k(.i .i64 1))),oz 6(.mv(.t 12))])))
noncomputable def OI:CM:=⟨false,1,36,[.tmp 2],(.seq(rg false [oz 1(.box 23 16(.t 0)),oz 2(.mv(.k(.s [])))])(.seq(rg false [oz 7(.ld true 16(.t 1)),oz 8(.call GN [(.t 7)]),oz 3(.alloc 185(Ay 8(T.int .i64)).zc),on(.st 8(.t 3)(.t 8))])(.seq(rg false [oz 4(.mv(.k(.i .i64 0)))])(.seq(rg false [oz 5(.mv(.k(.i .i64 0)))])(.seq(.seq(rg false [oz 6(.mv(.k(.i .i64 0)))])(.blk 0(.loop [3,4,5,6]Zr)))(.seq(.seq(rg false [oz 22(.mv(.t 5)),oz 23(.bin .lss(.t 22)(.k(.i .i64 2)))])(.cond(.t 23)(.seq(rg false [oz 24(.ld true 8(.t 3)),oz 25(.call Ho [(.t 24),(.k(.i .i64 0)),(.k(.i .i64 8))]),oz 2(.mv(.t 25))]) .ret) .skip))(.seq(rg true [oz 26(.ld true 8(.t 3)),oz 27(.mv(.t 4)),oz 28(.call Ho [(.t 26),(.k(.i .i64 0)),(.t 27)]),oz 29(.bin .add(.t 28)(.k(.s [58,58]))),oz 30(.ld true 8(.t 3)),oz 31(.mv(.t 4)),oz 32(.mv(.t 5)),oz 33(.bin .add(.t 31)(.t 32)),oz 34(.call Ho [(.t 30),(.t 33),(.k(.i .i64 8))]),oz 35(.bin .add(.t 29)(.t 34)),oz 2(.mv(.t 35))]) .ret)))))))⟩
noncomputable def Zs:AC:=(.seq(.seq(rg false [oz 9(.mv(.t 4)),oz 10(.bin .lss(.t 9)(.k(.i .i64 4)))])(.cond(.t 10) .skip(.exit 0)))(.seq(.blk 1(rg false [oz 13(.mv(.t 3)),oz 14(.bin .add(.t 13)(.k(.s [46]))),oz 15(.mv(.t 4)),oz 16(.iaa 4 1(.t 1)(.t 15)),oz 17(.ld false 1(.t 16)),oz 18(.cvi .u64(.t 17)),oz 19(.call Df [(.t 18)]),oz 20(.bin .add(.t 14)(.t 19)),oz 3(.mv(.t 20))]))(rg false [oz 11(.mv(.t 4)),oz 12(.bin .add(.t 11)(.k(.i .i64 1))),oz 4(.mv(.t 12))])))
noncomputable def OJ:CM:=⟨false,1,22,[.tmp 2],(.seq(rg false [oz 1(.box 156 4(.t 0)),oz 2(.mv(.k(.s [])))])(.seq(rg false [oz 5(.iaa 4 1(.t 1)(.k(.i .i64 0))),oz 6(.ld false 1(.t 5)),oz 7(.cvi .u64(.t 6)),oz 8(.call Df [(.t 7)]),oz 3(.mv(.t 8))])(.seq(.seq(rg false [oz 4(.mv(.k(.i .i64 1)))])(.blk 0(.loop [1,3,4]Zs)))(.seq(rg false [oz 21(.mv(.t 3)),oz 2(.mv(.t 21))]) .ret))))⟩
noncomputable def Lz:CM:=⟨false,1,20,[.tmp 2],(.seq(rg false [oz 1(.box 91 18(.t 0)),oz 2(.mv(.k(.b false)))])(.seq(rg false [oz 6(.fa 0(.t 1)),oz 7(.ld true 17(.t 6)),oz 8(.fa 17(.t 1)),oz 9(.ld false 1(.t 8)),oz 10(.call JW [(.t 7),(.t 9)]),oz 5(.mv(.t 10)),oz 11(.ext(.t 5)0),oz 12(.ext(.t 5)1),oz 3(.alloc 91 Aj.zc),on(.st 18(.t 3)(.t 11)),oz 4(.mv(.t 12))])(.seq(rg false [oz 13(.mv(.t 4)),oz 14(.bin .eql(.t 13)(.k(.i .i64 0))),oz 15(.mv(.t 14)),⟨some 16,some(15,true), .ld true 18(.t 3)⟩,⟨some 17,some(15,true), .ld true 18(.t 1)⟩,⟨some 18,some(15,true), .eq false(.agg(kk [(1, .i .i64),(16, .i .u8),(1, .i .i64)]))(.t 16)(.t 17)⟩,oz 19(.pick(.t 15)(.t 18)(.k(.b false))),oz 2(.mv(.t 19))]) .ret)))⟩
noncomputable def MA:CM:=⟨false,2,20,[.tmp 4],(.seq(rg false [oz 2(.box 91 18(.t 0)),oz 3(.box 91 18(.t 1)),oz 4(.mv(.k(.b false)))])(.seq(.seq(rg false [oz 5(.fa 0(.t 2)),oz 6(.ld true 17(.t 5)),oz 7(.fa 0(.t 3)),oz 8(.ld true 17(.t 7)),oz 9(.eq false(.agg(kk [(1, .i .i64),(16, .i .u8)]))(.t 6)(.t 8))])(.cond(.t 9)(.seq(rg false [oz 10(.fa 17(.t 2)),oz 11(.ld false 1(.t 10)),oz 12(.fa 17(.t 3)),oz 13(.ld false 1(.t 12)),oz 14(.bin .lss(.t 11)(.t 13)),oz 4(.mv(.t 14))]) .ret) .skip))(.seq(rg false [oz 15(.fa 0(.t 2)),oz 16(.ld true 17(.t 15)),oz 17(.fa 0(.t 3)),oz 18(.ld true 17(.t 17)),oz 19(.call HL [(.t 16),(.t 18)]),oz 4(.mv(.t 19))]) .ret)))⟩
noncomputable def L1:CM:=⟨false,1,20,[.tmp 2],(.seq(rg false [oz 1(.box 25 17(.t 0)),oz 2(.mv(.k(.b false)))])(.seq(rg true [oz 3(.fa 0(.t 1)),oz 4(.ld false 1(.t 3)),oz 5(.bin .eql(.t 4)(.k(.i .i64 6))),oz 6(.mv(.t 5)),⟨some 7,some(6,false), .fa 0(.t 1)⟩,⟨some 8,some(6,false), .ld false 1(.t 7)⟩,⟨some 9,some(6,false), .bin .eql(.t 8)(.k(.i .i64 4))⟩,⟨some 10,some(6,false), .mv(.t 9)⟩,⟨some 11,some(10,true), .ld true 17(.t 1)⟩,⟨some 12,some(10,true), .fa 1(.t 1)⟩,⟨some 13,some(10,true), .sla 16 1(.t 12)none(some(.k(.i .i64 4)))⟩,⟨some 14,some(10,true), .s2a 4 1(.t 13)⟩,⟨some 15,some(10,true), .ld true 4(.t 14)⟩,⟨some 16,some(10,true), .call HM [(.t 15)]⟩,⟨some 17,some(10,true), .eq false(.agg(kk [(1, .i .i64),(16, .i .u8)]))(.t 11)(.t 16)⟩,⟨some 18,some(6,false), .pick(.t 10)(.t 17)(.k(.b false))⟩,oz 19(.pick(.t 6)(.k(.b true))(.t 18)),oz 2(.mv(.t 19))]) .ret))⟩
noncomputable def Fb:CM:=⟨false,2,9,[.tmp 4],(.seq(rg false [oz 4(.mv(.k(.b false)))])(.seq(rg false [oz 5(.mv(.t 0)),oz 6(.mv(.t 1)),oz 7(.call DG [(.t 5),(.t 6)]),oz 8(.bin .geq(.t 7)(.k(.i .i64 0))),oz 4(.mv(.t 8))]) .ret))⟩
noncomputable def GB:CM:=⟨false,2,9,[.tmp 4],(.seq(rg false [oz 4(.mv(.k(.b false)))])(.seq(rg false [oz 5(.mv(.t 0)),oz 6(.mv(.t 1)),oz 7(.call EH [(.t 5),(.t 6)]),oz 8(.bin .geq(.t 7)(.k(.i .i64 0))),oz 4(.mv(.t 8))]) .ret))⟩
noncomputable def Kr:CM:=⟨false,1,31,[.tmp 2],(.seq(rg false [oz 1(.box 93 70(.t 0)),oz 2(.mv(.k(.b false)))])(.seq(.seq(rg false [oz 6(.fa 0(.t 1)),oz 7(.ld false 1(.t 6)),oz 8(.call FF [(.t 7)]),oz 9(.bin .eql(.t 8)(.k(.s [])))])(.cond(.t 9)(.seq(rg false [oz 2(.mv(.k(.b false)))]) .ret) .skip))(.seq(rg false [oz 10(.fa 0(.t 1)),oz 11(.ld false 1(.t 10)),oz 12(.call EL [(.t 11)]),oz 3(.alloc 168(zz [(3, .nilf)])),on(.st 3(.t 3)(.t 12))])(.seq(rg false [oz 14(.fa 1(.t 3)),oz 15(.ld false 1(.t 14)),oz 16(.ld true 70(.t 1)),oz 17(.callv(.t 15) [(.t 16)]),oz 13(.mv(.t 17)),oz 18(.ext(.t 13)0),oz 19(.ext(.t 13)1),oz 4(.mv(.t 18)),oz 5(.mv(.t 19))])(.seq(.regd [oz 20(.mv(.t 5)),oz 21(.mv(.t 20)),⟨some 22,some(21,true), .fa 2(.t 3)⟩,⟨some 23,some(21,true), .ld false 1(.t 22)⟩,⟨some 24,some(21,true), .ld true 70(.t 1)⟩,⟨some 25,some(21,true), .callv(.t 23) [(.t 24)]⟩,⟨some 26,some(21,true), .fa 0(.t 1)⟩,⟨some 27,some(21,true), .ld false 1(.t 26)⟩,⟨some 28,some(21,true), .bld Af.zc [(0,1,(.t 27))]⟩,⟨some 29,some(21,true), .eq false(.agg(kk [(1, .i .i64),(32, .i .u8),(1, .i .u64),(1, .i .i64),(16, .i .u8),(2, .i .i64),(16, .i .u8),(1, .i .i64)]))(.t 25)(.t 28)⟩,oz 30(.pick(.t 21)(.t 29)(.k(.b false))),oz 2(.mv(.t 30))] [some(0,0),some(0,0),some(0,0),some(0,0),some(0,0),none,some(0,1),some(0,1),some(0,1),some(1,1),some(1,1),some(1,1)]) .ret)))))⟩
noncomputable def KU:CM:=⟨true,1,33,[.cell true 3 2],(.seq(rg false [oz 2(.alloc 168(zz [(3, .nilf)]))])(.seq(.seq(rg false [oz 3(.mv(.t 0))])(.blk 0(.seq(.seq(rg false [oz 5(.bin .eql(.t 3)(.k(.i .i64 1))),oz 4(.mv(.t 5))])(.cond(.t 4) .skip(.seq(rg false [oz 6(.bin .eql(.t 3)(.k(.i .i64 5))),oz 4(.mv(.t 6))])(.cond(.t 4) .skip(rg false [oz 7(.bin .eql(.t 3)(.k(.i .i64 8))),oz 4(.mv(.t 7))])))))(.cond(.t 4)(.seq(rg false [oz 8(.call Hp []),on(.st 3(.t 2)(.t 8))]) .ret)(.seq(rg false [oz 10(.bin .eql(.t 3)(.k(.i .i64 9))),oz 9(.mv(.t 10))])(.cond(.t 9)(.seq(rg false [oz 11(.call Hq []),on(.st 3(.t 2)(.t 11))]) .ret)(.seq(rg false [oz 13(.bin .eql(.t 3)(.k(.i .i64 12))),oz 12(.mv(.t 13))])(.cond(.t 12)(.seq(rg false [oz 14(.call FZ []),on(.st 3(.t 2)(.t 14))]) .ret)(.seq(.seq(rg false [oz 16(.bin .eql(.t 3)(.k(.i .i64 2))),oz 15(.mv(.t 16))])(.cond(.t 15) .skip(rg false [oz 17(.bin .eql(.t 3)(.k(.i .i64 10))),oz 15(.mv(.t 17))])))(.cond(.t 15)(.seq(rg false [oz 18(.call CV [(.k(.i .u64 0)),(.k(.i .u64 65535))]),on(.st 3(.t 2)(.t 18))]) .ret)(.seq(rg false [oz 20(.bin .eql(.t 3)(.k(.i .i64 3))),oz 19(.mv(.t 20))])(.cond(.t 19)(.seq(rg false [oz 21(.call CV [(.k(.i .u64 0)),(.k(.i .u64 4294967295))]),on(.st 3(.t 2)(.t 21))]) .ret)(.seq(rg false [oz 23(.bin .eql(.t 3)(.k(.i .i64 13))),oz 22(.mv(.t 23))])(.cond(.t 22)(.seq(rg false [oz 24(.call CV [(.k(.i .u64 1)),(.k(.i .u64 1))]),on(.st 3(.t 2)(.t 24))]) .ret)(.seq(.seq(rg false [oz 26(.bin .eql(.t 3)(.k(.i .i64 14))),oz 25(.mv(.t 26))])
     (.cond(.t 25) .skip(rg false [oz 27(.bin .eql(.t 3)(.k(.i .i64 15))),oz 25(.mv(.t 27))])))(.cond(.t 25)(.seq(rg false [oz 28(.call CV [(.k(.i .u64 0)),(.k(.i .u64 18446744073709551615))]),on(.st 3(.t 2)(.t 28))]) .ret)(.seq(rg false [oz 30(.bin .eql(.t 3)(.k(.i .i64 16))),oz 29(.mv(.t 30))])(.cond(.t 29)(.seq(rg false [oz 31(.call CV [(.k(.i .u64 0)),(.k(.i .u64 20))]),on(.st 3(.t 2)(.t 31))]) .ret) .skip))))))))))))))))))(.seq(rg false [oz 32(.call Ik []),on(.st 3(.t 2)(.t 32))]) .ret)))⟩
noncomputable def Lx:CM:=⟨false,1,12,[.tmp 2],(.seq(rg false [oz 2(.mv(.k(.s [])))])(.seq(.seq(rg false [oz 3(.mv(.t 0)),oz 4(.bin .lss(.t 3)(.k(.i .i64 1))),oz 5(.mv(.t 4)),⟨some 6,some(5,false), .mv(.t 0)⟩,⟨some 7,some(5,false), .bin .gtr(.t 6)(.k(.i .i64 16))⟩,oz 8(.pick(.t 5)(.k(.b true))(.t 7))])(.cond(.t 8)(.seq(rg false [oz 2(.mv(.k(.s [])))]) .ret) .skip))(.seq(rg false [oz 9(.mv(.t 0)),oz 10(.iaa 17 1(.g 0)(.t 9)),oz 11(.ld false 1(.t 10)),oz 2(.mv(.t 11))]) .ret)))⟩
noncomputable def Qz:CM:=⟨false,2,10,[.tmp 4],(.seq(rg false [oz 4(.mv(.k(.b false)))])(.seq(rg false [oz 5(.mv(.t 0)),oz 6(.mv(.t 1)),oz 7(.call G5 [(.t 5),(.t 6)]),oz 8(.len(.t 7)),oz 9(.bin .gtr(.t 8)(.k(.i .i64 1))),oz 4(.mv(.t 9))]) .ret))⟩
noncomputable def Qy:CM:=⟨false,1,13,[.tmp 2],(.seq(rg false [oz 2(.mv(.k(.b false)))])(.seq(rg false [oz 3(.mv(.t 0)),oz 4(.bin .eql(.t 3)(.k(.i .i64 1))),oz 5(.mv(.t 4)),⟨some 6,some(5,false), .mv(.t 0)⟩,⟨some 7,some(5,false), .bin .eql(.t 6)(.k(.i .i64 5))⟩,oz 8(.pick(.t 5)(.k(.b true))(.t 7)),oz 9(.mv(.t 8)),⟨some 10,some(9,false), .mv(.t 0)⟩,⟨some 11,some(9,false), .bin .eql(.t 10)(.k(.i .i64 8))⟩,oz 12(.pick(.t 9)(.k(.b true))(.t 11)),oz 2(.mv(.t 12))]) .ret))⟩
noncomputable def OD:CM:=⟨false,1,15,[.tmp 2],(.seq(rg false [oz 1(.box 91 18(.t 0)),oz 2(.mv(.k(.s [])))])(.seq(.seq(rg false [oz 3(.ld true 18(.t 1)),oz 4(.call G3 [(.t 3)]),oz 5(.un .not(.t 4))])(.cond(.t 5)(.seq(rg false [oz 2(.mv(.k(.s [])))]) .ret) .skip))(.seq(rg true [oz 6(.fa 0(.t 1)),oz 7(.ld true 17(.t 6)),oz 8(.call Gj [(.t 7)]),oz 9(.bin .add(.t 8)(.k(.s [47]))),oz 10(.fa 17(.t 1)),oz 11(.ld false 1(.t 10)),oz 12(.cvi .u64(.t 11)),oz 13(.call Df [(.t 12)]),oz 14(.bin .add(.t 9)(.t 13)),oz 2(.mv(.t 14))]) .ret)))⟩
noncomputable def O8:CM:=⟨false,1,17,[.tmp 2],(.seq(rg false [oz 2(.mv(.k(.b false)))])(.seq(rg false [oz 3(.mv(.t 0)),oz 4(.bin .eql(.t 3)(.k(.i .i64 4))),oz 5(.mv(.t 4)),⟨some 6,some(5,false), .mv(.t 0)⟩,⟨some 7,some(5,false), .bin .eql(.t 6)(.k(.i .i64 6))⟩,oz 8(.pick(.t 5)(.k(.b true))(.t 7)),oz 9(.mv(.t 8)),⟨some 10,some(9,false), .mv(.t 0)⟩,⟨some 11,some(9,false), .bin .eql(.t 10)(.k(.i .i64 7))⟩,oz 12(.pick(.t 9)(.k(.b true))(.t 11)),oz 13(.mv(.t 12)),⟨some 14,some(13,false), .mv(.t 0)⟩,⟨some 15,some(13,false), .bin .eql(.t 14)(.k(.i .i64 11))⟩,oz 16(.pick(.t 13)(.k(.b true))(.t 15)),oz 2(.mv(.t 16))]) .ret))⟩
noncomputable def Mt:CM:=⟨false,0,2,[.tmp 0],(.seq(rg false [oz 0(.mv(.k(.nils)))])(.seq(rg false [oz 1(.bls 9 1(List.replicate 17 Ax.zc) [(0,(.k(.s []))),(1,(.k(.s [112,114,105,118,97,116,101,95,107,101,121]))),(2,(.k(.s [108,105,115,116,101,110,95,112,111,114,116]))),(3,(.k(.s [102,119,109,97,114,107]))),(4,(.k(.s [114,101,112,108,97,99,101,95,112,101,101,114,115]))),(5,(.k(.s [112,117,98,108,105,99,95,107,101,121]))),(6,(.k(.s [114,101,109,111,118,101]))),(7,(.k(.s [117,112,100,97,116,101,95,111,110,108,121]))),(8,(.k(.s [112,114,101,115,104,97,114,101,100,95,107,101,121]))),(9,(.k(.s [101,110,100,112,111,105,110,116]))),(10,(.k(.s [112,101,114,115,105,115,116,101,110,116,95,107,101,101,112,97,108,105,118,101,95,105,110,116,101,114,118,97,108]))),(11,(.k(.s [114,101,112,108,97,99,101,95,97,108,108,111,119,101,100,95,105,112,115]))),(12,(.k(.s [97,108,108,111,119,101,100,95,105,112]))),(13,(.k(.s [112,114,111,116,111,99,111,108,95,118,101,114,115,105,111,110]))),(14,(.k(.s [116,120,95,98,121,116,101,115]))),(15,(.k(.s [114,120,95,98,121,116,101,115]))),(16,(.k(.s [101,114,114,110,111])))]),oz 0(.mv(.t 1))]) .ret))⟩
noncomputable def XY:AC:=(.seq(.seq(rg false [oz 13(.mv(.t 6)),oz 14(.mv(.t 1)),oz 15(.bin .rem(.t 14)(.k(.i .i64 8))),oz 16(.bin .gtr(.t 13)(.t 15))])(.cond(.t 16) .skip(.exit 0)))(.seq(.blk 1(rg false [oz 19(.mv(.t 5)),oz 20(.bin .quo(.t 19)(.k(.i .i64 2))),oz 5(.mv(.t 20))]))(rg false [oz 17(.mv(.t 6)),oz 18(.bin .sub(.t 17)(.k(.i .i64 1))),oz 6(.mv(.t 18))])))
noncomputable def My:CM:=⟨false,2,23,[.tmp 4],(.seq(rg false [oz 2(.box 25 17(.t 0)),oz 4(.mv(.k(.i .i64 0)))])(.seq(rg false [oz 7(.mv(.t 1)),oz 8(.bin .quo(.t 7)(.k(.i .i64 8))),oz 9(.fa 1(.t 2)),oz 10(.iaa 16 1(.t 9)(.t 8)),oz 11(.ld false 1(.t 10)),oz 12(.cvi .i64(.t 11)),oz 5(.mv(.t 12))])(.seq(.seq(rg false [oz 6(.mv(.k(.i .i64 7)))])(.blk 0(.loop [1,5,6]XY)))(.seq(rg false [oz 21(.mv(.t 5)),oz 22(.bin .rem(.t 21)(.k(.i .i64 2))),oz 4(.mv(.t 22))]) .ret))))⟩
noncomputable def Es:CM:=⟨false,2,17,[.tmp 4],(.seq(rg false [oz 4(.mv(.k(.nili)))])(.seq(rg false [oz 5(.mv(.t 0)),oz 6(.call B4 [(.t 5)])])(.seq(rg false [oz 7(.mv(.t 0)),oz 8(.mv(.t 0)),oz 9(.nilc(.t 8)),oz 10(.fa 1(.t 9)),oz 11(.ld false 1(.t 10)),oz 12(.mv(.t 1)),oz 13(.bll 1(List.replicate 1 T.u8.zc) [(0,(.t 12))]),oz 14(.app 5 1 1(.t 11)(.t 13)),oz 15(.nilc(.t 7)),oz 16(.fa 1(.t 15)),on(.st 1(.t 16)(.t 14))])(.seq(rg false [oz 4(.mv(.k(.nili)))]) .ret))))⟩
noncomputable def L0:CM:=⟨false,1,11,[.tmp 2],(.seq(rg false [oz 1(.box 25 17(.t 0)),oz 2(.mv(.k(.i .i64 0)))])(.seq(.blk 0(.seq(rg false [oz 4(.ld true 17(.t 1)),oz 5(.call D9 [(.t 4)]),oz 6(.un .not(.t 5)),oz 3(.mv(.t 6))])(.cond(.t 3)(.seq(rg false [oz 2(.mv(.k(.i .i64 0)))]) .ret)(.seq(rg false [oz 8(.fa 0(.t 1)),oz 9(.ld false 1(.t 8)),oz 10(.bin .eql(.t 9)(.k(.i .i64 4))),oz 7(.mv(.t 10))])(.cond(.t 7)(.seq(rg false [oz 2(.mv(.k(.i .i64 32)))]) .ret) .skip)))))(.seq(rg false [oz 2(.mv(.k(.i .i64 128)))]) .ret)))⟩
noncomputable def MB:CM:=⟨false,1,19,[.tmp 2],(.seq(rg false [oz 1(.box 25 17(.t 0)),oz 2(.mv(.k(.s [])))])(.seq(.blk 0(.seq(rg false [oz 4(.ld true 17(.t 1)),oz 5(.call D9 [(.t 4)]),oz 6(.un .not(.t 5)),oz 3(.mv(.t 6))])(.cond(.t 3)(.seq(rg false [oz 2(.mv(.k(.s [])))]) .ret)(.seq(rg false [oz 8(.fa 0(.t 1)),oz 9(.ld false 1(.t 8)),oz 10(.bin .eql(.t 9)(.k(.i .i64 4))),oz 7(.mv(.t 10))])(.cond(.t 7)(.seq(rg false [oz 11(.fa 1(.t 1)),oz 12(.sla 16 1(.t 11)none(some(.k(.i .i64 4)))),oz 13(.s2a 4 1(.t 12)),oz 14(.ld true 4(.t 13)),oz 15(.call HF [(.t 14)]),oz 2(.mv(.t 15))]) .ret) .skip)))))(.seq(rg false [oz 16(.fa 1(.t 1)),oz 17(.ld true 16(.t 16)),oz 18(.call GR [(.t 17)]),oz 2(.mv(.t 18))]) .ret)))⟩
noncomputable def Fz:CM:=⟨false,2,8,[.tmp 4],(.seq(rg false [oz 4(.mv(.k(.s [])))])(.seq(rg false [oz 5(.mv(.t 0)),oz 6(.mv(.t 1)),oz 7(.call BL [(.t 5),(.t 6)]),oz 4(.mv(.t 7))]) .ret))⟩
noncomputable def C9:CM:=⟨false,2,8,[.tmp 4],(.seq(rg false [oz 4(.mv(.k(.i .i64 0)))])(.seq(rg false [oz 5(.mv(.t 0)),oz 6(.mv(.t 1)),oz 7(.call Cm [(.t 5),(.t 6)]),oz 4(.mv(.t 7))]) .ret))⟩
noncomputable def VT:AC:=(.seq(.seq(rg false [oz 5(.mv(.t 4)),oz 6(.bin .lss(.t 5)(.k(.i .i64 8)))])(.cond(.t 6) .skip(.exit 0)))(.seq(.blk 1(.regd [oz 9(.mv(.t 4)),oz 10(.mv(.t 4)),oz 11(.bin .mul(.k(.i .i64 2))(.t 10)),oz 12(.iaa 16 1(.t 1)(.t 11)),oz 13(.ld false 1(.t 12)),oz 14(.cvi .i64(.t 13)),oz 15(.bin .mul(.k(.i .i64 256))(.t 14)),oz 16(.mv(.t 4)),oz 17(.bin .mul(.k(.i .i64 2))(.t 16)),oz 18(.bin .add(.t 17)(.k(.i .i64 1))),oz 19(.iaa 16 1(.t 1)(.t 18)),oz 20(.ld false 1(.t 19)),oz 21(.cvi .i64(.t 20)),oz 22(.bin .add(.t 15)(.t 21)),oz 23(.iaa 8 1(.t 3)(.t 9)),on(.st 1(.t 23)(.t 22))] [some(0,0),some(0,0),some(0,0),some(0,0),some(0,0),some(0,0),some(0,0),some(0,0),some(0,0),some(0,0),some(0,0),some(0,0),some(0,0),some(0,0),some(0,0),none]))(rg false [oz 7(.mv(.t 4)),oz 8(.bin .add(.t 7)(.k(.i .i64 1))),oz 4(.mv(.t 8))])))
noncomputable def Lt:CM:=⟨false,1,25,[.cell true 8 2],(.seq(rg false [oz 1(.box 23 16(.t 0)),oz 2(.alloc 185(Ay 8(T.int .i64)).zc)])(.seq(rg false [oz 3(.alloc 185(Ay 8(T.int .i64)).zc)])(.seq(.seq(rg false [oz 4(.mv(.k(.i .i64 0)))])(.blk 0(.loop [1,2,3,4]VT)))(.seq(rg false [oz 24(.ld true 8(.t 3)),on(.st 8(.t 2)(.t 24))]) .ret))))⟩
noncomputable def eT:AC:=(.seq(.seq(rg false [oz 6(.mv(.t 1)),oz 7(.mv(.t 5)),oz 8(.bin .add(.t 6)(.t 7)),oz 9(.bin .lss(.t 8)(.k(.i .i64 8))),oz 10(.mv(.t 9)),⟨some 11,some(10,true), .mv(.t 1)⟩,⟨some 12,some(10,true), .mv(.t 5)⟩,⟨some 13,some(10,true), .bin .add(.t 11)(.t 12)⟩,⟨some 14,some(10,true), .iaa 8 1(.t 2)(.t 13)⟩,⟨some 15,some(10,true), .ld false 1(.t 14)⟩,⟨some 16,some(10,true), .bin .eql(.t 15)(.k(.i .i64 0))⟩,oz 17(.pick(.t 10)(.t 16)(.k(.b false)))])(.cond(.t 17) .skip(.exit 0)))(.blk 1(rg false [oz 18(.mv(.t 5)),oz 19(.bin .add(.t 18)(.k(.i .i64 1))),oz 5(.mv(.t 19))])))
noncomputable def Q0:CM:=⟨false,2,21,[.tmp 4],(.seq(rg false [oz 2(.box 185 8(.t 0)),oz 4(.mv(.k(.i .i64 0)))])(.seq(rg false [oz 5(.mv(.k(.i .i64 0)))])(.seq(.blk 0(.loop [1,2,5]eT))(.seq(rg false [oz 20(.mv(.t 5)),oz 4(.mv(.t 20))]) .ret))))⟩
noncomputable def eU:AC:=(.seq(.seq(rg false [oz 10(.mv(.t 8)),oz 11(.mv(.t 2)),oz 12(.bin .lss(.t 10)(.t 11))])(.cond(.t 12) .skip(.exit 0)))(.seq(.blk 1(.seq(.seq(rg false [oz 15(.mv(.t 8)),oz 16(.mv(.t 1)),oz 17(.bin .gtr(.t 15)(.t 16))])(.cond(.t 17)(rg false [oz 18(.mv(.t 7)),oz 19(.bin .add(.t 18)(.k(.s [58]))),oz 7(.mv(.t 19))]) .skip))(rg false [oz 20(.mv(.t 7)),oz 21(.mv(.t 8)),oz 22(.iaa 8 1(.t 3)(.t 21)),oz 23(.ld false 1(.t 22)),oz 24(.call E7 [(.t 23)]),oz 25(.bin .add(.t 20)(.t 24)),oz 7(.mv(.t 25))])))(rg false [oz 13(.mv(.t 8)),oz 14(.bin .add(.t 13)(.k(.i .i64 1))),oz 8(.mv(.t 14))])))
noncomputable def Q1:CM:=⟨false,3,27,[.tmp 6],(.seq(rg false [oz 3(.box 185 8(.t 0)),oz 6(.mv(.k(.s [])))])(.seq(rg false [oz 7(.mv(.k(.s [])))])(.seq(.seq(rg false [oz 9(.mv(.t 1)),oz 8(.mv(.t 9))])(.blk 0(.loop [1,2,3,7,8]eU)))(.seq(rg false [oz 26(.mv(.t 7)),oz 6(.mv(.t 26))]) .ret))))⟩
noncomputable def Q2:CM:=⟨false,2,26,[.cell true 18 4, .tmp 5],(.seq(rg false [oz 2(.box 25 17(.t 0)),oz 4(.alloc 91 Aj.zc),oz 5(.mv(.k(.i .i64 0)))])(.seq(.blk 0(.seq(rg false [oz 7(.ld true 17(.t 2)),oz 8(.call D9 [(.t 7)]),oz 9(.un .not(.t 8)),oz 6(.mv(.t 9))])(.cond(.t 6)(.seq(rg false [oz 10(.bld Aj.zc []),on(.st 18(.t 4)(.t 10)),oz 5(.mv(.k(.i .i64 1)))]) .ret)(.seq(rg false [oz 12(.mv(.t 1)),oz 13(.bin .lss(.t 12)(.k(.i .i64 0))),oz 14(.mv(.t 13)),⟨some 15,some(14,false), .mv(.t 1)⟩,⟨some 16,some(14,false), .ld true 17(.t 2)⟩,⟨some 17,some(14,false), .call FG [(.t 16)]⟩,⟨some 18,some(14,false), .bin .gtr(.t 15)(.t 17)⟩,oz 19(.pick(.t 14)(.k(.b true))(.t 18)),oz 11(.mv(.t 19))])(.cond(.t 11)(.seq(rg false [oz 20(.bld Aj.zc []),on(.st 18(.t 4)(.t 20)),oz 5(.mv(.k(.i .i64 6)))]) .ret) .skip)))))(.seq(rg false [oz 21(.ld true 17(.t 2)),oz 22(.mv(.t 1)),oz 23(.call HK [(.t 21),(.t 22)]),oz 24(.mv(.t 1)),oz 25(.bld Aj.zc [(0,17,(.t 23)),(17,1,(.t 24))]),on(.st 18(.t 4)(.t 25)),oz 5(.mv(.k(.i .i64 0)))]) .ret)))⟩
noncomputable def MD:CM:=⟨false,2,21,[.tmp 4],(.seq(rg false [oz 2(.box 25 17(.t 0)),oz 3(.box 25 17(.t 1)),oz 4(.mv(.k(.b false)))])(.seq(.seq(rg false [oz 5(.fa 0(.t 2)),oz 6(.ld false 1(.t 5)),oz 7(.fa 0(.t 3)),oz 8(.ld false 1(.t 7)),oz 9(.bin .neq(.t 6)(.t 8))])(.cond(.t 9)(.seq(rg false [oz 10(.fa 0(.t 2)),oz 11(.ld false 1(.t 10)),oz 12(.fa 0(.t 3)),oz 13(.ld false 1(.t 12)),oz 14(.bin .lss(.t 11)(.t 13)),oz 4(.mv(.t 14))]) .ret) .skip))(.seq(rg true [oz 15(.fa 1(.t 2)),oz 16(.sla 16 1(.t 15)none none),oz 17(.fa 1(.t 3)),oz 18(.sla 16 1(.t 17)none none),oz 19(.call EN [(.t 16),(.t 18)]),oz 20(.bin .lss(.t 19)(.k(.i .i64 0))),oz 4(.mv(.t 20))]) .ret)))⟩
noncomputable def ME:CM:=⟨false,1,10,[.cell true 17 2],(.seq(rg false [oz 1(.box 156 4(.t 0)),oz 2(.alloc 25 Ak.zc)])(.seq(rg false [oz 4(.bld Ak.zc [(0,1,(.k(.i .i64 4)))]),oz 3(.alloc 25 Ak.zc),on(.st 17(.t 3)(.t 4))])(.seq(.regd [oz 5(.fa 1(.t 3)),oz 6(.sla 16 1(.t 5)none none),oz 7(.sla 4 1(.t 1)none none),oz 8(.cpy 1(.t 6)(.t 7))] [some(0,0),some(0,0),some(0,0),none])(.seq(rg false [oz 9(.ld true 17(.t 3)),on(.st 17(.t 2)(.t 9))]) .ret))))⟩
noncomputable def Pq:AC:=(.seq(.seq(rg false [oz 33(.mv(.t 8)),oz 34(.mv(.t 0)),oz 35(.lens(.t 34)),oz 36(.bin .lss(.t 33)(.t 35))])(.cond(.t 36) .skip(.exit 0)))(.seq(.blk 1(.seq(rg false [oz 39(.mv(.t 0)),oz 40(.mv(.t 8)),oz 41(.ixs(.t 39)(.t 40)),oz 42(.call BJ [(.t 6),(.t 41)])])(.cond(.t 42)(.seq(rg false [oz 43(.mv(.t 8)),oz 4(.mv(.t 43))]) .ret) .skip)))(rg false [oz 37(.mv(.t 8)),oz 38(.bin .add(.t 37)(.k(.i .i64 1))),oz 8(.mv(.t 38))])))
noncomputable def Pp:AC:=(.seq(rg false [oz 46(.nxt(.t 45)),oz 47(.ext(.t 46)0)])(.seq(.cond(.t 47) .skip(.exit 2))(.blk 3(.seq(rg false [oz 48(.ext(.t 46)1),oz 49(.ext(.t 46)2),oz 9(.mv(.t 48)),oz 10(.mv(.t 49))])(.seq(rg false [oz 50(.mv(.t 1)),oz 51(.mv(.t 10)),oz 52(.call CF [(.t 50),(.t 51)]),oz 53(.bin .geq(.t 52)(.k(.i .i64 0)))])(.cond(.t 53)(.seq(rg false [oz 54(.mv(.t 9)),oz 4(.mv(.t 54))]) .ret) .skip))))))
noncomputable def GA:CM:=⟨false,2,55,[.tmp 4],(.seq(rg false [oz 4(.mv(.k(.i .i64 0)))])(.seq(.seq(rg false [oz 11(.mv(.t 1)),oz 12(.bin .eql(.t 11)(.k(.s [])))])(.cond(.t 12)(.seq(rg false [oz 4(.mv(.k(.i .i64(-1))))]) .ret) .skip))(.seq(.seq(rg false [oz 13(.mv(.t 1)),oz 14(.lens(.t 13)),oz 15(.bin .eql(.t 14)(.k(.i .i64 1)))])(.cond(.t 15)(.seq(rg false [oz 16(.mv(.t 1)),oz 17(.ixs(.t 16)(.k(.i .i64 0))),oz 18(.cvi .i32(.t 17)),oz 5(.mv(.t 18))])(.seq(.seq(rg false [oz 19(.mv(.t 5)),oz 20(.bin .geq(.t 19)(.k(.i .i32 128)))])(.cond(.t 20)(rg false [oz 5(.mv(.k(.i .i32 65533)))]) .skip))(.seq(rg false [oz 21(.mv(.t 0)),oz 22(.mv(.t 5)),oz 23(.call CF [(.t 21),(.t 22)]),oz 4(.mv(.t 23))]) .ret))) .skip))(.seq(.seq(rg false [oz 24(.mv(.t 0)),oz 25(.lens(.t 24)),oz 26(.call BV [(.t 25)])])(.cond(.t 26)(.seq(rg false [oz 28(.mv(.t 1)),oz 29(.call CC [(.t 28)]),oz 27(.mv(.t 29)),oz 30(.ext(.t 27)0),oz 31(.ext(.t 27)1),oz 6(.alloc 222(Ay 256 T.b).zc),on(.st 256(.t 6)(.t 30)),oz 7(.mv(.t 31))])(.seq(rg false [oz 32(.mv(.t 7))])(.cond(.t 32)(.seq(.seq(rg false [oz 8(.mv(.k(.i .i64 0)))])(.blk 0(.loop [0,6,8]Pq)))(.seq(rg false [oz 4(.mv(.k(.i .i64(-1))))]) .ret)) .skip))) .skip))(.seq(.seq(rg false [oz 44(.mv(.t 0)),oz 45(.rng(.t 44))])(.blk 2(.loop [1,45]Pp)))(.seq(rg false [oz 4(.mv(.k(.i .i64(-1))))]) .ret))))))⟩
noncomputable def It:CM:=⟨false,2,8,[.tmp 4],(.seq(rg false [oz 4(.mv(.k(.i .i64 0)))])(.seq(rg false [oz 5(.mv(.t 0)),oz 6(.mv(.t 1)),oz 7(.call BN [(.t 5),(.t 6)]),oz 4(.mv(.t 7))]) .ret))⟩
noncomputable def MX:CM:=⟨true,0,2,[.cell true 3 0],(.seq(rg false [oz 0(.alloc 168(zz [(3, .nilf)]))])(.seq(rg false [oz 1(.bld(zz [(3, .nilf)]) [(0,1,(.f HG)),(1,1,(.f CS)),(2,1,(.f CQ))]),on(.st 3(.t 0)(.t 1))]) .ret))⟩
noncomputable def MY:CM:=⟨true,0,2,[.cell true 3 0],(.seq(rg false [oz 0(.alloc 168(zz [(3, .nilf)]))])(.seq(rg false [oz 1(.bld(zz [(3, .nilf)]) [(0,1,(.f HH)),(1,1,(.f CU)),(2,1,(.f CT))]),on(.st 3(.t 0)(.t 1))]) .ret))⟩
noncomputable def KW:CM:=⟨true,0,2,[.cell true 3 0],(.seq(rg false [oz 0(.alloc 168(zz [(3, .nilf)]))])(.seq(rg false [oz 1(.bld(zz [(3, .nilf)]) [(0,1,(.f G7)),(1,1,(.f Cs)),(2,1,(.f Cr))]),on(.st 3(.t 0)(.t 1))]) .ret))⟩
noncomputable def KV:CM:=⟨true,2,8,[.cell true 3 4],(.seq(rg false [oz 2(.box 81 1(.t 0)),oz 3(.box 81 1(.t 1)),oz 4(.alloc 168(zz [(3, .nilf)]))])(.seq(rg false [oz 5(.mkf(.func BB) [] [(.t 3),(.t 2)]),oz 6(.mkf(.func Bm) [] [(.t 2),(.t 3)]),oz 7(.bld(zz [(3, .nilf)]) [(0,1,(.t 5)),(1,1,(.t 6)),(2,1,(.f Bi))]),on(.st 3(.t 4)(.t 7))]) .ret))⟩
noncomputable def OM:CM:=⟨true,0,2,[.cell true 3 0],(.seq(rg false [oz 0(.alloc 168(zz [(3, .nilf)]))])(.seq(rg false [oz 1(.bld(zz [(3, .nilf)]) [(0,1,(.f Is)),(1,1,(.f Dm)),(2,1,(.f Dl))]),on(.st 3(.t 0)(.t 1))]) .ret))⟩
noncomputable def Yc:AC:=(.seq(rg false [oz 8(.bin .lss(.t 7)(.k(.i .i64 4)))])(.seq(.cond(.t 8) .skip(.exit 0))(.seq(.blk 1(.seq(rg false [oz 9(.mv(.t 7)),oz 10(.ixa 4 1 false(.t 6)(.t 7)),oz 4(.mv(.t 9)),oz 5(.mv(.t 10))])(rg false [oz 11(.mv(.t 4)),oz 12(.mv(.t 5)),oz 13(.cvi .u64(.t 12)),oz 14(.call Dn [(.t 13)]),oz 15(.iaa 4 1(.t 3)(.t 11)),on(.st 1(.t 15)(.t 14))])))(rg false [oz 16(.bin .add(.t 7)(.k(.i .i64 1))),oz 7(.mv(.t 16))]))))
noncomputable def M6:CM:=⟨false,1,19,[.tmp 2],(.seq(rg false [oz 1(.box 156 4(.t 0)),oz 2(.mv(.k(.s [])))])(.seq(rg false [oz 3(.alloc 228(Ay 4 Ax).zc)])(.seq(.seq(rg false [oz 6(.ld true 4(.t 1)),oz 7(.mv(.k(.i .i64 0)))])(.blk 0(.loop [3,6,7]Yc)))(.seq(rg false [oz 17(.sla 4 1(.t 3)none none),oz 18(.call Ew [(.t 17),(.k(.s [46]))]),oz 2(.mv(.t 18))]) .ret))))⟩
noncomputable def Ly:CM:=⟨false,1,27,[.tmp 2],(.seq(rg false [oz 1(.box 23 16(.t 0)),oz 2(.mv(.k(.s [])))])(.seq(rg false [oz 6(.ld true 16(.t 1)),oz 7(.call Fl [(.t 6)]),oz 3(.alloc 229(Ay 8 T.u16).zc),on(.st 8(.t 3)(.t 7))])(.seq(rg false [oz 9(.ld true 8(.t 3)),oz 10(.call EM [(.t 9)]),oz 8(.mv(.t 10)),oz 11(.ext(.t 8)0),oz 12(.ext(.t 8)1),oz 4(.mv(.t 11)),oz 5(.mv(.t 12))])(.seq(.seq(rg false [oz 13(.mv(.t 5)),oz 14(.bin .lss(.t 13)(.k(.i .i64 2)))])(.cond(.t 14)(.seq(rg false [oz 15(.sla 8 1(.t 3)none none),oz 16(.call Fw [(.t 15)]),oz 2(.mv(.t 16))]) .ret) .skip))(.seq(rg true [oz 17(.mv(.t 4)),oz 18(.sla 8 1(.t 3)none(some(.t 17))),oz 19(.call Fw [(.t 18)]),oz 20(.bin .add(.t 19)(.k(.s [58,58]))),oz 21(.mv(.t 4)),oz 22(.mv(.t 5)),oz 23(.bin .add(.t 21)(.t 22)),oz 24(.sla 8 1(.t 3)(some(.t 23))none),oz 25(.call Fw [(.t 24)]),oz 26(.bin .add(.t 20)(.t 25)),oz 2(.mv(.t 26))]) .ret)))))⟩
noncomputable def Di:CM:=⟨false,2,32,[.tmp 4],(.seq(rg false [oz 4(.mv(.k(.s [])))])(.seq(.seq(rg false [oz 9(.mv(.t 1)),oz 10(.bin .eql(.t 9)(.k(.i .i64 10)))])(.cond(.t 10)(.seq(.seq(rg false [oz 11(.mv(.t 0)),oz 12(.bin .lss(.t 11)(.k(.i .u64 100)))])(.cond(.t 12)(.seq(rg false [oz 13(.mv(.t 0)),oz 14(.cvi .i64(.t 13)),oz 15(.call Cq [(.t 14)]),oz 4(.mv(.t 15))]) .ret) .skip))(.seq(rg false [oz 5(.alloc 240(Ay 24 T.u8).zc)])(.seq(rg false [oz 16(.mv(.t 0)),oz 17(.call BO [(.t 16)]),oz 6(.mv(.t 17))])(.seq(rg false [oz 18(.mv(.t 6)),oz 19(.sla 24 1(.t 5)none(some(.t 18))),oz 20(.mv(.t 0)),oz 21(.call BY [(.t 19),(.t 20)])])(.seq(rg false [oz 22(.mv(.t 6)),oz 23(.sla 24 1(.t 5)none(some(.t 22))),oz 24(.cvs(.t 23)),oz 4(.mv(.t 24))]) .ret))))) .skip))(.seq(rg false [oz 26(.mv(.t 0)),oz 27(.mv(.t 1)),oz 28(.call JV [(.k(.nils)),(.t 26),(.t 27),(.k(.b false)),(.k(.b false))]),oz 25(.mv(.t 28)),oz 29(.ext(.t 25)0),oz 30(.ext(.t 25)1),oz 7(.mv(.t 29)),oz 8(.mv(.t 30))])(.seq(rg false [oz 31(.mv(.t 8)),oz 4(.mv(.t 31))]) .ret))))⟩
noncomputable def M5:CM:=⟨false,1,14,[.tmp 2],(.seq(rg false [oz 2(.mv(.k(.s [])))])(.seq(.seq(rg false [oz 3(.mv(.t 0)),oz 4(.bin .lss(.t 3)(.k(.i .i64 16)))])(.cond(.t 4)(.seq(rg false [oz 5(.mv(.t 0)),oz 6(.call E6 [(.t 5)]),oz 2(.mv(.t 6))]) .ret) .skip))(.seq(rg false [oz 7(.mv(.t 0)),oz 8(.bin .quo(.t 7)(.k(.i .i64 16))),oz 9(.call E7 [(.t 8)]),oz 10(.mv(.t 0)),oz 11(.bin .rem(.t 10)(.k(.i .i64 16))),oz 12(.call E6 [(.t 11)]),oz 13(.bin .add(.t 9)(.t 12)),oz 2(.mv(.t 13))]) .ret)))⟩
noncomputable def Ye:AC:=(.seq(rg false [oz 12(.bin .lss(.t 11)(.k(.i .i64 16)))])(.seq(.cond(.t 12) .skip(.exit 0))(.seq(.blk 1(.seq(rg false [oz 13(.mv(.t 11)),oz 5(.mv(.t 13))])(.seq(rg false [oz 14(.mv(.t 1)),oz 15(.mv(.t 5)),oz 16(.bin .mul(.k(.i .i64 8))(.t 15)),oz 17(.bin .sub(.t 14)(.t 16)),oz 18(.mnx true(.t 17)(.k(.i .i64 0))),oz 19(.mnx false(.t 18)(.k(.i .i64 8))),oz 6(.mv(.t 19))])(.seq(.seq(rg false [oz 20(.mv(.t 1)),oz 21(.bin .lss(.t 20)(.k(.i .i64 0)))])(.cond(.t 21)(rg false [oz 6(.mv(.k(.i .i64 0)))]) .skip))(rg false [oz 22(.mv(.t 5)),oz 23(.fa 1(.t 2)),oz 24(.iaa 16 1(.t 23)(.t 22)),oz 25(.ld false 1(.t 24)),oz 26(.mv(.t 6)),oz 27(.bin .sub(.k(.i .i64 8))(.t 26)),oz 28(.cvi .u64(.t 27)),oz 29(.bin .shl(.k(.i .u8 255))(.t 28)),oz 30(.bin .and(.t 25)(.t 29)),oz 31(.fa 1(.t 2)),oz 32(.iaa 16 1(.t 31)(.t 22)),on(.st 1(.t 32)(.t 30))])))))(rg false [oz 33(.bin .add(.t 11)(.k(.i .i64 1))),oz 11(.mv(.t 33))]))))
noncomputable def MC:CM:=⟨false,2,35,[.cell true 17 4],(.seq(rg false [oz 2(.box 25 17(.t 0)),oz 4(.alloc 25 Ak.zc)])(.seq(.seq(rg false [oz 7(.ld true 17(.t 2)),oz 8(.call D9 [(.t 7)]),oz 9(.un .not(.t 8))])(.cond(.t 9)(.seq(rg false [oz 10(.bld Ak.zc []),on(.st 17(.t 4)(.t 10))]) .ret) .skip))(.seq(.seq(rg false [oz 11(.mv(.k(.i .i64 0)))])(.blk 0(.loop [1,2,4,11]Ye)))(.seq(rg false [oz 34(.ld true 17(.t 2)),on(.st 17(.t 4)(.t 34))]) .ret))))⟩
noncomputable def I3:CM:=⟨false,2,8,[.tmp 4],(.seq(rg false [oz 4(.mv(.k(.i .i64 0)))])(.seq(rg false [oz 5(.mv(.t 0)),oz 6(.mv(.t 1)),oz 7(.call D5 [(.t 5),(.t 6)]),oz 4(.mv(.t 7))]) .ret))⟩
noncomputable def O5:AC:=(.seq(rg false [oz 176(.nxt(.t 175)),oz 177(.ext(.t 176)0)])(.seq(.cond(.t 177) .skip(.exit 9))(.blk 10(.seq(rg false [oz 178(.ext(.t 176)1),oz 179(.ext(.t 176)2),oz 5(.mv(.t 178)),oz 6(.mv(.t 179))])(.seq(rg false [oz 180(.mv(.t 6)),oz 181(.bin .eql(.t 180)(.k(.i .i32 65533)))])(.cond(.t 181)(.seq(rg false [oz 182(.mv(.t 5)),oz 4(.mv(.t 182))]) .ret) .skip))))))
noncomputable def O4:AC:=(.seq(.seq(rg false [oz 48(.mv(.t 12)),oz 49(.mv(.t 7)),oz 50(.lens(.t 49)),oz 51(.bin .lss(.t 48)(.t 50))])(.cond(.t 51) .skip(.exit 3)))(.seq(.blk 4(.seq(rg true [oz 54(.mv(.t 0)),oz 55(.mv(.t 9)),oz 56(.mv(.t 12)),oz 57(.bin .sub(.t 55)(.t 56)),oz 58(.ixs(.t 54)(.t 57)),oz 59(.mv(.t 7)),oz 60(.mv(.t 8)),oz 61(.mv(.t 12)),oz 62(.bin .sub(.t 60)(.t 61)),oz 63(.ixs(.t 59)(.t 62)),oz 64(.bin .neq(.t 58)(.t 63))])(.cond(.t 64) .stop .skip)))(rg false [oz 52(.mv(.t 12)),oz 53(.bin .add(.t 52)(.k(.i .i64 1))),oz 12(.mv(.t 53))])))
noncomputable def O3:AC:=(.seq(.seq(rg false [oz 23(.mv(.t 9)),oz 24(.mv(.t 0)),oz 25(.lens(.t 24)),oz 26(.bin .lss(.t 23)(.t 25))])(.cond(.t 26) .skip(.exit 1)))(.blk 2(.scope(.seq(.seq(rg true [oz 27(.mv(.t 0)),oz 28(.mv(.t 9)),oz 29(.ixs(.t 27)(.t 28)),oz 30(.mv(.t 7)),oz 31(.mv(.t 8)),oz 32(.ixs(.t 30)(.t 31)),oz 33(.bin .neq(.t 29)(.t 32))])(.cond(.t 33)(.seq(rg true [oz 34(.mv(.t 0)),oz 35(.mv(.t 9)),oz 36(.bin .add(.t 35)(.k(.i .i64 1))),oz 37(.sls(.t 34)(some(.t 36))none),oz 38(.mv(.t 7)),oz 39(.mv(.t 8)),oz 40(.ixs(.t 38)(.t 39)),oz 41(.call CG [(.t 37),(.t 40)]),oz 11(.mv(.t 41))])(.seq(.seq(rg false [oz 42(.mv(.t 11)),oz 43(.bin .lss(.t 42)(.k(.i .i64 0)))])(.cond(.t 43)(.seq(rg false [oz 4(.mv(.k(.i .i64(-1))))]) .ret) .skip))(rg false [oz 44(.mv(.t 9)),oz 45(.mv(.t 11)),oz 46(.bin .add(.t 45)(.k(.i .i64 1))),oz 47(.bin .add(.t 44)(.t 46)),oz 9(.mv(.t 47))]))) .skip))(.seq(.seq(rg false [oz 12(.mv(.k(.i .i64 1)))])(.blk 3(.loop [0,7,8,9,12]O4)))(.seq(.seq(rg false [oz 65(.mv(.t 9)),oz 66(.mv(.t 8)),oz 67(.bin .sub(.t 65)(.t 66)),oz 4(.mv(.t 67))]) .ret)(.seq .skip(.seq(rg false [oz 68(.mv(.t 10)),oz 69(.bin .add(.t 68)(.k(.i .i64 1))),oz 10(.mv(.t 69))])(.seq(rg false [oz 70(.mv(.t 9)),oz 71(.bin .add(.t 70)(.k(.i .i64 1))),oz 9(.mv(.t 71))])(.seq(rg false [oz 72(.mv(.k(.b true))),⟨some 73,some(72,true), .mv(.t 10)⟩,⟨some 74,some(72,true), .mv(.t 9)⟩,⟨some 75,some(72,true), .call D4 [(.t 74)]⟩,⟨some 76,some(72,true), .bin .gtr(.t 73)(.t 75)⟩,oz 77(.pick(.t 72)(.t 76)(.k(.b false))),oz 78(.mv(.t 77)),⟨some 79,some(78,true), .mv(.t 9)⟩,⟨some 80,some(78,true), .mv(.t 0)⟩,⟨some 81,some(78,true), .lens(.t 80)⟩,⟨some 82,some(78,true), .bin .lss(.t 79)(.t 81)⟩,oz 83(.pick(.t 78)(.t 82)(.k(.b false))),oz 84(.mv(.t 83)),⟨some 85,some(84,false), .mv(.k(.b false))⟩,⟨some 86,some(85,true), .mv(.t 10)⟩,⟨some 87,some(85,true), .mv(.t 9)⟩,⟨some 88,some(85,true), .bin .shr(.t 87)(.k(.i .u64 4))⟩,⟨some 89,some(85,true), .bin .add(.k(.i .i64 4))(.t 88)⟩,⟨some 90,some(85,true), .bin .geq(.t 86)(.t 89)⟩,⟨some 91,some(84,false), .pick(.t 85)(.t 90)(.k(.b false))⟩,⟨some 92,some(84,false), .mv(.t 91)⟩,⟨some 93,some(92,true), .mv(.t 9)⟩,⟨some 94,some(92,true), .mv(.t 0)⟩,⟨some 95,some(92,true), .lens(.t 94)⟩,⟨some 96,some(92,true), .bin .lss(.t 93)(.t 95)⟩,⟨some 97,some(84,false), .pick(.t 92)(.t 96)(.k(.b false))⟩,oz 98(.pick(.t 84)(.k(.b true))(.t 97))])
  (.cond(.t 98) .stop .skip)))))))))))
noncomputable def O2:AC:=(.seq(.seq(rg false [oz 140(.mv(.t 16)),oz 141(.mv(.t 7)),oz 142(.lens(.t 141)),oz 143(.bin .lss(.t 140)(.t 142))])(.cond(.t 143) .skip(.exit 7)))(.seq(.blk 8(.seq(rg true [oz 146(.mv(.t 0)),oz 147(.mv(.t 9)),oz 148(.mv(.t 16)),oz 149(.bin .sub(.t 147)(.t 148)),oz 150(.ixs(.t 146)(.t 149)),oz 151(.mv(.t 7)),oz 152(.mv(.t 8)),oz 153(.mv(.t 16)),oz 154(.bin .sub(.t 152)(.t 153)),oz 155(.ixs(.t 151)(.t 154)),oz 156(.bin .neq(.t 150)(.t 155))])(.cond(.t 156)(.exit 6) .skip)))(rg false [oz 144(.mv(.t 16)),oz 145(.bin .add(.t 144)(.k(.i .i64 1))),oz 16(.mv(.t 145))])))
noncomputable def O1:AC:=(.seq(.seq(rg false [oz 121(.mv(.t 9)),oz 122(.mv(.t 0)),oz 123(.lens(.t 122)),oz 124(.bin .lss(.t 121)(.t 123))])(.cond(.t 124) .skip(.exit 5)))(.seq(.blk 6(.seq(rg false [oz 127(.mv(.t 0)),oz 128(.mv(.t 9)),oz 129(.ixs(.t 127)(.t 128)),oz 130(.mv(.t 14)),oz 131(.bin .eql(.t 129)(.t 130)),oz 132(.mv(.t 131)),⟨some 133,some(132,true), .mv(.t 0)⟩,⟨some 134,some(132,true), .mv(.t 9)⟩,⟨some 135,some(132,true), .bin .sub(.t 134)(.k(.i .i64 1))⟩,⟨some 136,some(132,true), .ixs(.t 133)(.t 135)⟩,⟨some 137,some(132,true), .mv(.t 15)⟩,⟨some 138,some(132,true), .bin .eql(.t 136)(.t 137)⟩,oz 139(.pick(.t 132)(.t 138)(.k(.b false)))])(.cond(.t 139)(.seq(.seq(rg false [oz 16(.mv(.k(.i .i64 2)))])(.blk 7(.loop [0,7,8,9,14,15,16]O2)))(.seq(rg false [oz 157(.mv(.t 9)),oz 158(.mv(.t 8)),oz 159(.bin .sub(.t 157)(.t 158)),oz 4(.mv(.t 159))]) .ret)) .skip)))(rg false [oz 125(.mv(.t 9)),oz 126(.bin .add(.t 125)(.k(.i .i64 1))),oz 9(.mv(.t 126))])))
noncomputable def FQ:CM:=⟨false,2,187,[.tmp 4],(.seq(rg false [oz 4(.mv(.k(.i .i64 0)))])(.blk 0(.seq(rg false [oz 161(.mv(.t 1)),oz 162(.bin .leq(.k(.i .i32 0))(.t 161)),oz 163(.mv(.t 162)),⟨some 164,some(163,true), .mv(.t 1)⟩,⟨some 165,some(163,true), .bin .lss(.t 164)(.k(.i .i32 128))⟩,oz 166(.pick(.t 163)(.t 165)(.k(.b false))),oz 160(.mv(.t 166))])(.cond(.t 160)(.seq(rg false [oz 167(.mv(.t 0)),oz 168(.mv(.t 1)),oz 169(.cvi .u8(.t 168)),oz 170(.call CG [(.t 167),(.t 169)]),oz 4(.mv(.t 170))]) .ret)(.seq(rg false [oz 172(.mv(.t 1)),oz 173(.bin .eql(.t 172)(.k(.i .i32 65533))),oz 171(.mv(.t 173))])(.cond(.t 171)(.seq(.seq(rg false [oz 174(.mv(.t 0)),oz 175(.rng(.t 174))])(.blk 9(.loop [175]O5)))(.seq(rg false [oz 4(.mv(.k(.i .i64(-1))))]) .ret))(.seq(rg false [oz 184(.mv(.t 1)),oz 185(.call Cp [(.t 184)]),oz 186(.un .not(.t 185)),oz 183(.mv(.t 186))])(.cond(.t 183)(.seq(rg false [oz 4(.mv(.k(.i .i64(-1))))]) .ret)(.scope(.seq(rg false [oz 17(.mv(.t 1)),oz 18(.cvc(.t 17)),oz 7(.mv(.t 18))])(.seq(rg false [oz 19(.mv(.t 7)),oz 20(.lens(.t 19)),oz 21(.bin .sub(.t 20)(.k(.i .i64 1))),oz 8(.mv(.t 21))])(.seq(rg false [oz 22(.mv(.t 8)),oz 9(.mv(.t 22))])(.seq(rg false [oz 10(.mv(.k(.i .i64 0)))])(.seq(.blk 1(.loop [0,7,8,9]O3))(.seq(.seq(rg false [oz 4(.mv(.k(.i .i64(-1))))]) .ret)(.seq .skip(.seq(.cond(.k(.b true))(.seq(rg false [oz 99(.mv(.t 0)),oz 100(.mv(.t 9)),oz 101(.mv(.t 8)),oz 102(.bin .sub(.t 100)(.t 101)),oz 103(.sls(.t 99)(some(.t 102))none),oz 104(.mv(.t 1)),oz 105(.cvc(.t 104)),oz 106(.call DL [(.t 103),(.t 105)]),oz 13(.mv(.t 106))])
    (.seq(rg false [oz 107(.mv(.t 13)),oz 108(.bin .geq(.t 107)(.k(.i .i64 0)))])(.cond(.t 108)(.seq(rg false [oz 109(.mv(.t 9)),oz 110(.mv(.t 13)),oz 111(.bin .add(.t 109)(.t 110)),oz 112(.mv(.t 8)),oz 113(.bin .sub(.t 111)(.t 112)),oz 4(.mv(.t 113))]) .ret) .skip)))(.scope(.seq(rg false [oz 114(.mv(.t 7)),oz 115(.mv(.t 8)),oz 116(.ixs(.t 114)(.t 115)),oz 14(.mv(.t 116))])(.seq(rg false [oz 117(.mv(.t 7)),oz 118(.mv(.t 8)),oz 119(.bin .sub(.t 118)(.k(.i .i64 1))),oz 120(.ixs(.t 117)(.t 119)),oz 15(.mv(.t 120))])(.seq .skip(.blk 5(.loop [0,7,8,9,14,15]O1)))))))(.seq(rg false [oz 4(.mv(.k(.i .i64(-1))))]) .ret))))))))))))))))))⟩
noncomputable def D6:CM:=⟨false,1,5,[.tmp 2],(.seq(rg false [oz 2(.mv(.k(.b false)))])(.seq(rg false [oz 3(.mv(.t 0)),oz 4(.bin .gtr(.t 3)(.k(.i .i64 8))),oz 2(.mv(.t 4))]) .ret))⟩
noncomputable def LZ:AC:=(.seq(.seq(rg false [oz 6(.mv(.t 4)),oz 7(.mv(.t 0)),oz 8(.lens(.t 7)),oz 9(.bin .lss(.t 6)(.t 8))])(.cond(.t 9) .skip(.exit 0)))(.seq(.blk 1(.seq(rg false [oz 12(.mv(.t 0)),oz 13(.mv(.t 4)),oz 14(.ixs(.t 12)(.t 13)),oz 5(.mv(.t 14))])(.seq(.seq(rg false [oz 15(.mv(.t 5)),oz 16(.bin .geq(.t 15)(.k(.i .u8 128)))])(.cond(.t 16)(.seq(rg false [oz 17(.ld true 256(.t 2)),on(.st 256(.t 2)(.t 17)),oz 3(.mv(.k(.b false)))]) .ret) .skip))(rg false [oz 18(.mv(.t 5)),oz 19(.iaa 256 1(.t 2)(.t 18)),on(.st 1(.t 19)(.k(.b true)))]))))(rg false [oz 10(.mv(.t 4)),oz 11(.bin .add(.t 10)(.k(.i .i64 1))),oz 4(.mv(.t 11))])))
noncomputable def EB:CM:=⟨false,1,21,[.cell true 256 2, .tmp 3],(.seq(rg false [oz 2(.alloc 222(Ay 256 T.b).zc),oz 3(.mv(.k(.b false)))])(.seq(.seq(rg false [oz 4(.mv(.k(.i .i64 0)))])(.blk 0(.loop [0,2,4]LZ)))(.seq(rg false [oz 20(.ld true 256(.t 2)),on(.st 256(.t 2)(.t 20)),oz 3(.mv(.k(.b true)))]) .ret)))⟩
noncomputable def Dh:CM:=⟨false,2,10,[.tmp 4],(.seq(rg false [oz 4(.mv(.k(.b false)))])(.seq(rg false [oz 5(.mv(.t 0)),oz 6(.mv(.t 1)),oz 7(.nilc(.t 5)),oz 8(.iaa 256 1(.t 7)(.t 6)),oz 9(.ld false 1(.t 8)),oz 4(.mv(.t 9))]) .ret))⟩
noncomputable def JF:AC:=(.seq(.seq(rg false [oz 57(.mv(.t 8)),oz 58(.mv(.t 9)),oz 59(.bin .lss(.t 57)(.t 58))])(.cond(.t 59) .skip(.exit 1)))(.blk 2(.seq(.seq(rg false [oz 60(.mv(.t 0)),oz 61(.mv(.t 8)),oz 62(.ixs(.t 60)(.t 61)),oz 63(.mv(.t 6)),oz 64(.bin .neq(.t 62)(.t 63))])(.cond(.t 64)(.seq(rg false [oz 65(.mv(.t 0)),oz 66(.mv(.t 8)),oz 67(.bin .add(.t 66)(.k(.i .i64 1))),oz 68(.mv(.t 9)),oz 69(.sls(.t 65)(some(.t 67))(some(.t 68))),oz 70(.mv(.t 6)),oz 71(.call Bj [(.t 69),(.t 70)]),oz 11(.mv(.t 71))])(.seq(.seq(rg false [oz 72(.mv(.t 11)),oz 73(.bin .lss(.t 72)(.k(.i .i64 0)))])(.cond(.t 73)(.seq(rg false [oz 4(.mv(.k(.i .i64(-1))))]) .ret) .skip))(rg false [oz 74(.mv(.t 8)),oz 75(.mv(.t 11)),oz 76(.bin .add(.t 75)(.k(.i .i64 1))),oz 77(.bin .add(.t 74)(.t 76)),oz 8(.mv(.t 77))]))) .skip))(.seq(.seq(rg false [oz 78(.mv(.t 0)),oz 79(.mv(.t 8)),oz 80(.bin .add(.t 79)(.k(.i .i64 1))),oz 81(.ixs(.t 78)(.t 80)),oz 82(.mv(.t 7)),oz 83(.bin .eql(.t 81)(.t 82)),oz 84(.mv(.t 83)),⟨some 85,some(84,true), .mv(.t 0)⟩,⟨some 86,some(84,true), .mv(.t 8)⟩,⟨some 87,some(84,true), .mv(.t 8)⟩,⟨some 88,some(84,true), .mv(.t 5)⟩,⟨some 89,some(84,true), .bin .add(.t 87)(.t 88)⟩,⟨some 90,some(84,true), .sls(.t 85)(some(.t 86))(some(.t 89))⟩,⟨some 91,some(84,true), .mv(.t 1)⟩,⟨some 92,some(84,true), .bin .eql(.t 90)(.t 91)⟩,oz 93(.pick(.t 84)(.t 92)(.k(.b false)))])(.cond(.t 93)(.seq(rg false [oz 94(.mv(.t 8)),oz 4(.mv(.t 94))]) .ret) .skip))(.seq(rg false [oz 95(.mv(.t 8)),oz 96(.bin .add(.t 95)(.k(.i .i64 1))),oz 8(.mv(.t 96))])
  (.seq(rg false [oz 97(.mv(.t 10)),oz 98(.bin .add(.t 97)(.k(.i .i64 1))),oz 10(.mv(.t 98))])(.seq(rg false [oz 99(.mv(.t 5)),oz 100(.ld false 1(.g 1)),oz 101(.bin .leq(.t 99)(.t 100)),oz 102(.mv(.t 101)),⟨some 103,some(102,true), .mv(.t 10)⟩,⟨some 104,some(102,true), .mv(.t 8)⟩,⟨some 105,some(102,true), .call D4 [(.t 104)]⟩,⟨some 106,some(102,true), .bin .gtr(.t 103)(.t 105)⟩,oz 107(.pick(.t 102)(.t 106)(.k(.b false)))])(.cond(.t 107)(.seq(rg false [oz 108(.mv(.t 0)),oz 109(.mv(.t 8)),oz 110(.sls(.t 108)(some(.t 109))none),oz 111(.mv(.t 1)),oz 112(.call DL [(.t 110),(.t 111)]),oz 12(.mv(.t 112))])(.seq(.seq(rg false [oz 113(.mv(.t 12)),oz 114(.bin .geq(.t 113)(.k(.i .i64 0)))])(.cond(.t 114)(.seq(rg false [oz 115(.mv(.t 12)),oz 116(.mv(.t 8)),oz 117(.bin .add(.t 115)(.t 116)),oz 4(.mv(.t 117))]) .ret) .skip))(.seq(rg false [oz 4(.mv(.k(.i .i64(-1))))]) .ret)))(.seq(rg false [oz 118(.mv(.t 5)),oz 119(.ld false 1(.g 1)),oz 120(.bin .gtr(.t 118)(.t 119)),oz 121(.mv(.t 120)),⟨some 122,some(121,true), .mv(.t 10)⟩,⟨some 123,some(121,true), .mv(.t 8)⟩,⟨some 124,some(121,true), .bin .shr(.t 123)(.k(.i .u64 4))⟩,⟨some 125,some(121,true), .bin .add(.k(.i .i64 4))(.t 124)⟩,⟨some 126,some(121,true), .bin .geq(.t 122)(.t 125)⟩,oz 127(.pick(.t 121)(.t 126)(.k(.b false))),oz 128(.mv(.t 127)),⟨some 129,some(128,true), .mv(.t 8)⟩,⟨some 130,some(128,true), .mv(.t 9)⟩,⟨some 131,some(128,true), .bin .lss(.t 129)(.t 130)⟩,oz 132(.pick(.t 128)(.t 131)(.k(.b false)))])(.cond(.t 132)(.seq(rg false [oz 133(.mv(.t 0)),oz 134(.mv(.t 8)),oz 135(.sls(.t 133)(some(.t 134))none),oz 136(.mv(.t 1)),oz 137(.call Cv [(.t 135),(.t 136)]),oz 13(.mv(.t 137))])
   (.seq(.seq(rg false [oz 138(.mv(.t 13)),oz 139(.bin .lss(.t 138)(.k(.i .i64 0)))])(.cond(.t 139)(.seq(rg false [oz 4(.mv(.k(.i .i64(-1))))]) .ret) .skip))(.seq(rg false [oz 140(.mv(.t 8)),oz 141(.mv(.t 13)),oz 142(.bin .add(.t 140)(.t 141)),oz 4(.mv(.t 142))]) .ret))) .skip))))))))))
noncomputable def Do:CM:=⟨false,2,143,[.tmp 4],(.seq(rg false [oz 4(.mv(.k(.i .i64 0)))])(.seq(rg false [oz 14(.mv(.t 1)),oz 15(.lens(.t 14)),oz 5(.mv(.t 15))])(.seq(.blk 0(.seq(rg false [oz 17(.mv(.t 5)),oz 18(.bin .eql(.t 17)(.k(.i .i64 0))),oz 19(.mv(.t 18)),⟨some 20,some(19,false), .mv(.t 1)⟩,⟨some 21,some(19,false), .mv(.t 0)⟩,⟨some 22,some(19,false), .bin .eql(.t 20)(.t 21)⟩,oz 23(.pick(.t 19)(.k(.b true))(.t 22)),oz 16(.mv(.t 23))])(.cond(.t 16)(.seq(rg false [oz 4(.mv(.k(.i .i64 0)))]) .ret)(.seq(rg false [oz 25(.mv(.t 5)),oz 26(.bin .eql(.t 25)(.k(.i .i64 1))),oz 24(.mv(.t 26))])(.cond(.t 24)(.seq(rg false [oz 27(.mv(.t 0)),oz 28(.mv(.t 1)),oz 29(.ixs(.t 28)(.k(.i .i64 0))),oz 30(.call Bj [(.t 27),(.t 29)]),oz 4(.mv(.t 30))]) .ret)(.seq(rg false [oz 32(.mv(.t 5)),oz 33(.mv(.t 0)),oz 34(.lens(.t 33)),oz 35(.bin .geq(.t 32)(.t 34)),oz 31(.mv(.t 35))])(.cond(.t 31)(.seq(rg false [oz 4(.mv(.k(.i .i64(-1))))]) .ret)(.seq(rg false [oz 37(.mv(.t 5)),oz 38(.ld false 1(.g 1)),oz 39(.bin .leq(.t 37)(.t 38)),oz 40(.mv(.t 39)),⟨some 41,some(40,true), .mv(.t 0)⟩,⟨some 42,some(40,true), .lens(.t 41)⟩,⟨some 43,some(40,true), .bin .leq(.t 42)(.k(.i .i64 64))⟩,oz 44(.pick(.t 40)(.t 43)(.k(.b false))),oz 36(.mv(.t 44))])(.cond(.t 36)(.seq(rg false [oz 45(.mv(.t 0)),oz 46(.mv(.t 1)),oz 47(.call DL [(.t 45),(.t 46)]),oz 4(.mv(.t 47))]) .ret) .skip)))))))))(.seq(rg false [oz 48(.mv(.t 1)),oz 49(.ixs(.t 48)(.k(.i .i64 0))),oz 6(.mv(.t 49))])(.seq(rg false [oz 50(.mv(.t 1)),oz 51(.ixs(.t 50)(.k(.i .i64 1))),oz 7(.mv(.t 51))])
 (.seq(rg false [oz 8(.mv(.k(.i .i64 0)))])(.seq(rg false [oz 52(.mv(.t 0)),oz 53(.lens(.t 52)),oz 54(.mv(.t 5)),oz 55(.bin .sub(.t 53)(.t 54)),oz 56(.bin .add(.t 55)(.k(.i .i64 1))),oz 9(.mv(.t 56))])(.seq(rg false [oz 10(.mv(.k(.i .i64 0)))])(.seq(.blk 1(.loop [0,1,5,6,7,8,9,10]JF))(.seq(rg false [oz 4(.mv(.k(.i .i64(-1))))]) .ret))))))))))⟩
noncomputable def Iy:CM:=⟨false,1,7,[.tmp 2, .tmp 3],(.seq(rg false [oz 1(.box 93 70(.t 0)),oz 2(.mv(.k(.s []))),oz 3(.mv(.k(.b false)))])(.seq(rg false [oz 4(.fa 1(.t 1)),oz 5(.ld true 32(.t 4)),oz 6(.call Jd [(.t 5)]),oz 2(.mv(.t 6)),oz 3(.mv(.k(.b true)))]) .ret))⟩
noncomputable def Ix:CM:=⟨false,1,6,[.cell true 70 2],(.seq(rg false [oz 1(.box 93 70(.t 0)),oz 2(.alloc 93 Af.zc)])(.seq(rg false [oz 3(.bld(Ay 32 T.u8).zc []),oz 4(.fa 1(.t 1)),on(.st 32(.t 4)(.t 3))])(.seq(rg false [oz 5(.ld true 70(.t 1)),on(.st 70(.t 2)(.t 5))]) .ret)))⟩
noncomputable def I1:CM:=⟨false,1,10,[.tmp 2, .tmp 3],(.seq(rg false [oz 1(.box 93 70(.t 0)),oz 2(.mv(.k(.s []))),oz 3(.mv(.k(.b false)))])(.seq(rg true [oz 4(.fa 34(.t 1)),oz 5(.ld true 18(.t 4)),oz 6(.call EJ [(.t 5)]),oz 7(.fa 34(.t 1)),oz 8(.ld true 18(.t 7)),oz 9(.call Dg [(.t 8)]),oz 2(.mv(.t 6)),oz 3(.mv(.t 9))]) .ret))⟩
noncomputable def Iz:CM:=⟨false,1,6,[.cell true 70 2],(.seq(rg false [oz 1(.box 93 70(.t 0)),oz 2(.alloc 93 Af.zc)])(.seq(rg false [oz 3(.bld Ao.zc []),oz 4(.fa 34(.t 1)),on(.st 18(.t 4)(.t 3))])(.seq(rg false [oz 5(.ld true 70(.t 1)),on(.st 70(.t 2)(.t 5))]) .ret)))⟩
noncomputable def Hd:CM:=⟨false,1,10,[.tmp 2, .tmp 3],(.seq(rg false [oz 1(.box 93 70(.t 0)),oz 2(.mv(.k(.s []))),oz 3(.mv(.k(.b false)))])(.seq(rg true [oz 4(.fa 52(.t 1)),oz 5(.ld true 18(.t 4)),oz 6(.call HI [(.t 5)]),oz 7(.fa 52(.t 1)),oz 8(.ld true 18(.t 7)),oz 9(.call EF [(.t 8)]),oz 2(.mv(.t 6)),oz 3(.mv(.t 9))]) .ret))⟩
noncomputable def M9:CM:=⟨false,1,15,[.tmp 2],(.seq(rg false [oz 1(.box 91 18(.t 0)),oz 2(.mv(.k(.s [])))])(.seq(.seq(rg false [oz 3(.ld true 18(.t 1)),oz 4(.call EF [(.t 3)]),oz 5(.un .not(.t 4))])(.cond(.t 5)(.seq(rg false [oz 2(.mv(.k(.s [])))]) .ret) .skip))(.seq(rg true [oz 6(.fa 0(.t 1)),oz 7(.ld true 17(.t 6)),oz 8(.call Fx [(.t 7)]),oz 9(.bin .add(.t 8)(.k(.s [47]))),oz 10(.fa 17(.t 1)),oz 11(.ld false 1(.t 10)),oz 12(.cvi .u64(.t 11)),oz 13(.call Dn [(.t 12)]),oz 14(.bin .add(.t 9)(.t 13)),oz 2(.mv(.t 14))]) .ret)))⟩
noncomputable def Hc:CM:=⟨false,1,6,[.cell true 70 2],(.seq(rg false [oz 1(.box 93 70(.t 0)),oz 2(.alloc 93 Af.zc)])(.seq(rg false [oz 3(.bld Aj.zc []),oz 4(.fa 52(.t 1)),on(.st 18(.t 4)(.t 3))])(.seq(rg false [oz 5(.ld true 70(.t 1)),on(.st 70(.t 2)(.t 5))]) .ret)))⟩
noncomputable def J0:CM:=⟨true,3,19,[.tmp 4, .tmp 5],(.seq(rg false [oz 3(.box 93 70(.t 0)),oz 4(.mv(.k(.s []))),oz 5(.mv(.k(.b false)))])(.seq(rg true [oz 6(.fa 33(.t 3)),oz 7(.ld false 1(.t 6)),oz 8(.call Dn [(.t 7)]),oz 9(.fa 33(.t 3)),oz 10(.ld false 1(.t 9)),oz 11(.ld false 1(.t 1)),oz 12(.bin .geq(.t 10)(.t 11)),oz 13(.mv(.t 12)),⟨some 14,some(13,true), .fa 33(.t 3)⟩,⟨some 15,some(13,true), .ld false 1(.t 14)⟩,⟨some 16,some(13,true), .ld false 1(.t 2)⟩,⟨some 17,some(13,true), .bin .leq(.t 15)(.t 16)⟩,oz 18(.pick(.t 13)(.t 17)(.k(.b false))),oz 4(.mv(.t 8)),oz 5(.mv(.t 18))]) .ret))⟩
noncomputable def Hb:CM:=⟨false,1,5,[.cell true 70 2],(.seq(rg false [oz 1(.box 93 70(.t 0)),oz 2(.alloc 93 Af.zc)])(.seq(rg false [oz 3(.fa 33(.t 1)),on(.st 1(.t 3)(.k(.i .u64 0)))])(.seq(rg false [oz 4(.ld true 70(.t 1)),on(.st 70(.t 2)(.t 4))]) .ret)))⟩
noncomputable def Jz:CM:=⟨false,1,4,[.tmp 2, .tmp 3],(.seq(rg false [oz 1(.box 93 70(.t 0)),oz 2(.mv(.k(.s []))),oz 3(.mv(.k(.b false)))])(.seq(rg false [oz 2(.mv(.k(.s [116,114,117,101]))),oz 3(.mv(.k(.b true)))]) .ret))⟩
noncomputable def Jy:CM:=⟨false,1,4,[.cell true 70 2],(.seq(rg false [oz 1(.box 93 70(.t 0)),oz 2(.alloc 93 Af.zc)])(.seq(rg false [oz 3(.ld true 70(.t 1)),on(.st 70(.t 2)(.t 3))]) .ret))⟩
noncomputable def To:AC:=(.seq(rg false [oz 8(.bin .lss(.t 7)(.k(.i .i64 8)))])(.seq(.cond(.t 8) .skip(.exit 0))(.seq(.blk 1(.seq(rg false [oz 9(.mv(.t 7)),oz 4(.mv(.t 9))])(.seq(rg false [oz 11(.mv(.t 4)),oz 12(.bin .mul(.k(.i .i64 2))(.t 11)),oz 13(.mv(.t 4)),oz 14(.bin .mul(.k(.i .i64 2))(.t 13)),oz 15(.bin .add(.t 14)(.k(.i .i64 2))),oz 16(.sla 16 1(.t 1)(some(.t 12))(some(.t 15))),oz 17(.call Fk [(.t 16)]),oz 10(.mv(.t 17)),oz 18(.ext(.t 10)0),oz 19(.ext(.t 10)1),oz 5(.mv(.t 18)),oz 6(.mv(.t 19))])(rg false [oz 20(.mv(.t 4)),oz 21(.mv(.t 5)),oz 22(.cvi .u16(.t 21)),oz 23(.iaa 8 1(.t 3)(.t 20)),on(.st 1(.t 23)(.t 22))]))))(rg false [oz 24(.bin .add(.t 7)(.k(.i .i64 1))),oz 7(.mv(.t 24))]))))
noncomputable def J4:CM:=⟨false,1,26,[.cell true 8 2],(.seq(rg false [oz 1(.box 23 16(.t 0)),oz 2(.alloc 229(Ay 8 T.u16).zc)])(.seq(rg false [oz 3(.alloc 229(Ay 8 T.u16).zc)])(.seq(.seq(rg false [oz 7(.mv(.k(.i .i64 0)))])(.blk 0(.loop [1,2,3,7]To)))(.seq(rg false [oz 25(.ld true 8(.t 3)),on(.st 8(.t 2)(.t 25))]) .ret))))⟩
noncomputable def RP:AC:=(.seq(rg false [oz 9(.bin .lss(.t 8)(.k(.i .i64 8)))])(.seq(.cond(.t 9) .skip(.exit 0))(.seq(.blk 1(.seq(rg false [oz 10(.mv(.t 8)),oz 11(.ixa 8 1 false(.t 7)(.t 8)),oz 5(.mv(.t 10)),oz 6(.mv(.t 11))])(.seq(.seq(rg false [oz 12(.mv(.t 6)),oz 13(.bin .neq(.t 12)(.k(.i .u16 0)))])(.cond(.t 13)(.seq(rg false [oz 4(.mv(.k(.i .i64 0)))])(.exit 1)) .skip))(.seq(rg false [oz 14(.mv(.t 4)),oz 15(.bin .add(.t 14)(.k(.i .i64 1))),oz 4(.mv(.t 15))])(.seq(rg false [oz 16(.mv(.t 4)),oz 17(.mv(.t 3)),oz 18(.bin .gtr(.t 16)(.t 17))])(.cond(.t 18)(rg false [oz 19(.mv(.t 5)),oz 20(.bin .add(.t 19)(.k(.i .i64 1))),oz 21(.mv(.t 4)),oz 22(.bin .sub(.t 20)(.t 21)),oz 23(.mv(.t 4)),oz 2(.mv(.t 22)),oz 3(.mv(.t 23))]) .skip))))))(rg false [oz 24(.bin .add(.t 8)(.k(.i .i64 1))),oz 8(.mv(.t 24))]))))
noncomputable def I2:CM:=⟨false,1,27,[.tmp 2, .tmp 3],(.seq(rg false [oz 1(.box 229 8(.t 0)),oz 2(.mv(.k(.i .i64 0))),oz 3(.mv(.k(.i .i64 0)))])(.seq(rg false [oz 4(.mv(.k(.i .i64 0)))])(.seq(.seq(rg false [oz 7(.ld true 8(.t 1)),oz 8(.mv(.k(.i .i64 0)))])(.blk 0(.loop [2,3,4,7,8]RP)))(.seq(rg false [oz 25(.mv(.t 2)),oz 26(.mv(.t 3)),oz 2(.mv(.t 25)),oz 3(.mv(.t 26))]) .ret))))⟩
noncomputable def Yd:AC:=(.seq(rg false [oz 9(.bin .lss(.t 8)(.t 7))])(.seq(.cond(.t 9) .skip(.exit 0))(.seq(.blk 1(.seq(rg false [oz 10(.ias 1(.t 6)(.t 8)),oz 11(.ld false 1(.t 10)),oz 5(.mv(.t 11))])(rg false [oz 12(.mv(.t 3)),oz 13(.mv(.t 5)),oz 14(.call FX [(.t 13)]),oz 15(.bll 1(List.replicate 1 Ax.zc) [(0,(.t 14))]),oz 16(.app 9 1 16(.t 12)(.t 15)),oz 3(.mv(.t 16))])))(rg false [oz 17(.bin .add(.t 8)(.k(.i .i64 1))),oz 8(.mv(.t 17))]))))
noncomputable def M8:CM:=⟨false,1,20,[.tmp 2],(.seq(rg false [oz 2(.mv(.k(.s [])))])(.seq(rg false [oz 3(.mv(.k(.nils)))])(.seq(.seq(rg false [oz 6(.mv(.t 0)),oz 7(.len(.t 6)),oz 8(.mv(.k(.i .i64 0)))])(.blk 0(.loop [3,6,7,8]Yd)))(.seq(rg false [oz 18(.mv(.t 3)),oz 19(.call Ew [(.t 18),(.k(.s [58]))]),oz 2(.mv(.t 19))]) .ret))))⟩
noncomputable def Ei:CM:=⟨false,1,15,[.tmp 2],(.seq(rg false [oz 2(.mv(.k(.s [])))])(.seq(.seq(rg false [oz 3(.mv(.t 0)),oz 4(.bin .lss(.t 3)(.k(.i .i64 10)))])(.cond(.t 4)(.seq(rg false [oz 5(.mv(.t 0)),oz 6(.mv(.t 0)),oz 7(.bin .add(.t 6)(.k(.i .i64 1))),oz 8(.sls(.k(.s [48,49,50,51,52,53,54,55,56,57,97,98,99,100,101,102,103,104,105,106,107,108,109,110,111,112,113,114,115,116,117,118,119,120,121,122]))(some(.t 5))(some(.t 7))),oz 2(.mv(.t 8))]) .ret) .skip))(.seq(rg false [oz 9(.mv(.t 0)),oz 10(.bin .mul(.t 9)(.k(.i .i64 2))),oz 11(.mv(.t 0)),oz 12(.bin .mul(.t 11)(.k(.i .i64 2))),oz 13(.bin .add(.t 12)(.k(.i .i64 2))),oz 14(.sls(.k(.s Fd))(some(.t 10))(some(.t 13))),oz 2(.mv(.t 14))]) .ret)))⟩
noncomputable def Dp:CM:=⟨false,1,15,[.tmp 2],(.seq(rg false [oz 2(.mv(.k(.i .i64 0)))])(.seq(rg false [oz 4(.mv(.t 0)),oz 5(.call DV [(.t 4)]),oz 6(.call BP [(.t 5)]),oz 3(.mv(.t 6))])(.seq(rg false [oz 7(.mv(.t 3)),oz 8(.mv(.t 0)),oz 9(.mv(.t 3)),oz 10(.iaa 20 1(.g 2)(.t 9)),oz 11(.ld false 1(.t 10)),oz 12(.bin .geq(.t 8)(.t 11)),oz 13(.call BQ [(.t 12)]),oz 14(.bin .add(.t 7)(.t 13)),oz 2(.mv(.t 14))]) .ret)))⟩
noncomputable def IJ:AC:=(.seq(.seq(rg false [oz 19(.mv(.t 4)),oz 20(.bin .geq(.t 19)(.k(.i .i64 8)))])(.cond(.t 20) .skip(.exit 0)))(.blk 1(.seq(rg false [oz 21(.mv(.t 1)),oz 22(.bin .rem(.t 21)(.k(.i .u64 100000000))),oz 23(.cvi .u32(.t 22)),oz 5(.mv(.t 23))])(.seq(rg false [oz 24(.mv(.t 1)),oz 25(.bin .quo(.t 24)(.k(.i .u64 100000000))),oz 1(.mv(.t 25))])(.seq(rg false [oz 26(.mv(.t 5)),oz 27(.bin .quo(.t 26)(.k(.i .u32 10000))),oz 28(.mv(.t 5)),oz 29(.bin .rem(.t 28)(.k(.i .u32 10000))),oz 6(.mv(.t 27)),oz 7(.mv(.t 29))])(.seq(rg false [oz 30(.mv(.t 7)),oz 31(.bin .quo(.t 30)(.k(.i .u32 100))),oz 32(.bin .mul(.t 31)(.k(.i .u32 2))),oz 33(.mv(.t 7)),oz 34(.bin .rem(.t 33)(.k(.i .u32 100))),oz 35(.bin .mul(.t 34)(.k(.i .u32 2))),oz 8(.mv(.t 32)),oz 9(.mv(.t 35))])(.seq(rg false [oz 36(.mv(.t 6)),oz 37(.bin .quo(.t 36)(.k(.i .u32 100))),oz 38(.bin .mul(.t 37)(.k(.i .u32 2))),oz 39(.mv(.t 6)),oz 40(.bin .rem(.t 39)(.k(.i .u32 100))),oz 41(.bin .mul(.t 40)(.k(.i .u32 2))),oz 10(.mv(.t 38)),oz 11(.mv(.t 41))])(.seq(.regd [oz 42(.mv(.t 0)),oz 43(.mv(.t 4)),oz 44(.bin .sub(.t 43)(.k(.i .i64 1))),oz 45(.mv(.t 0)),oz 46(.mv(.t 4)),oz 47(.bin .sub(.t 46)(.k(.i .i64 2))),oz 48(.mv(.t 9)),oz 49(.bin .add(.t 48)(.k(.i .u32 1))),oz 50(.ixs(.k(.s Fd))(.t 49)),oz 51(.mv(.t 9)),oz 52(.ixs(.k(.s Fd))(.t 51)),oz 53(.ias 1(.t 42)(.t 44)),on(.st 1(.t 53)(.t 50)),oz 54(.ias 1(.t 45)(.t 47)),on(.st 1(.t 54)(.t 52))] [some(0,0),some(0,0),some(0,0),some(0,1),some(0,1),some(0,1),some(0,0),some(0,0),some(0,0),some(0,1),some(0,1),some(0,0),none,some(1,1),none])
  (.seq(.regd [oz 55(.mv(.t 0)),oz 56(.mv(.t 4)),oz 57(.bin .sub(.t 56)(.k(.i .i64 3))),oz 58(.mv(.t 0)),oz 59(.mv(.t 4)),oz 60(.bin .sub(.t 59)(.k(.i .i64 4))),oz 61(.mv(.t 8)),oz 62(.bin .add(.t 61)(.k(.i .u32 1))),oz 63(.ixs(.k(.s Fd))(.t 62)),oz 64(.mv(.t 8)),oz 65(.ixs(.k(.s Fd))(.t 64)),oz 66(.ias 1(.t 55)(.t 57)),on(.st 1(.t 66)(.t 63)),oz 67(.ias 1(.t 58)(.t 60)),on(.st 1(.t 67)(.t 65))] [some(0,0),some(0,0),some(0,0),some(0,1),some(0,1),some(0,1),some(0,0),some(0,0),some(0,0),some(0,1),some(0,1),some(0,0),none,some(1,1),none])(.seq(.regd [oz 68(.mv(.t 0)),oz 69(.mv(.t 4)),oz 70(.bin .sub(.t 69)(.k(.i .i64 5))),oz 71(.mv(.t 0)),oz 72(.mv(.t 4)),oz 73(.bin .sub(.t 72)(.k(.i .i64 6))),oz 74(.mv(.t 11)),oz 75(.bin .add(.t 74)(.k(.i .u32 1))),oz 76(.ixs(.k(.s Fd))(.t 75)),oz 77(.mv(.t 11)),oz 78(.ixs(.k(.s Fd))(.t 77)),oz 79(.ias 1(.t 68)(.t 70)),on(.st 1(.t 79)(.t 76)),oz 80(.ias 1(.t 71)(.t 73)),on(.st 1(.t 80)(.t 78))] [some(0,0),some(0,0),some(0,0),some(0,1),some(0,1),some(0,1),some(0,0),some(0,0),some(0,0),some(0,1),some(0,1),some(0,0),none,some(1,1),none])(.seq(.regd [oz 81(.mv(.t 0)),oz 82(.mv(.t 4)),oz 83(.bin .sub(.t 82)(.k(.i .i64 7))),oz 84(.mv(.t 0)),oz 85(.mv(.t 4)),oz 86(.bin .sub(.t 85)(.k(.i .i64 8))),oz 87(.mv(.t 10)),oz 88(.bin .add(.t 87)(.k(.i .u32 1))),oz 89(.ixs(.k(.s Fd))(.t 88)),oz 90(.mv(.t 10)),oz 91(.ixs(.k(.s Fd))(.t 90)),oz 92(.ias 1(.t 81)(.t 83)),on(.st 1(.t 92)(.t 89)),oz 93(.ias 1(.t 84)(.t 86)),on(.st 1(.t 93)(.t 91))] [some(0,0),some(0,0),some(0,0),some(0,1),some(0,1),some(0,1),some(0,0),some(0,0),some(0,0),some(0,1),some(0,1),some(0,0),none,some(1,1),none])
  (rg false [oz 94(.mv(.t 4)),oz 95(.bin .sub(.t 94)(.k(.i .i64 8))),oz 4(.mv(.t 95))]))))))))))))
noncomputable def DN:CM:=⟨true,2,167,[],(.seq(rg false [oz 17(.mv(.t 0)),oz 18(.len(.t 17)),oz 4(.mv(.t 18))])(.seq(.blk 0(.loop [0,1,4]IJ))(.seq(rg false [oz 96(.mv(.t 1)),oz 97(.cvi .u32(.t 96)),oz 12(.mv(.t 97))])(.seq(.seq(rg false [oz 98(.mv(.t 4)),oz 99(.bin .geq(.t 98)(.k(.i .i64 4)))])(.cond(.t 99)(.seq(rg false [oz 100(.mv(.t 12)),oz 101(.bin .rem(.t 100)(.k(.i .u32 10000))),oz 13(.mv(.t 101))])(.seq(rg false [oz 102(.mv(.t 12)),oz 103(.bin .quo(.t 102)(.k(.i .u32 10000))),oz 12(.mv(.t 103))])(.seq(rg false [oz 104(.mv(.t 13)),oz 105(.bin .quo(.t 104)(.k(.i .u32 100))),oz 106(.bin .mul(.t 105)(.k(.i .u32 2))),oz 107(.mv(.t 13)),oz 108(.bin .rem(.t 107)(.k(.i .u32 100))),oz 109(.bin .mul(.t 108)(.k(.i .u32 2))),oz 14(.mv(.t 106)),oz 15(.mv(.t 109))])(.seq(.regd [oz 110(.mv(.t 0)),oz 111(.mv(.t 4)),oz 112(.bin .sub(.t 111)(.k(.i .i64 1))),oz 113(.mv(.t 0)),oz 114(.mv(.t 4)),oz 115(.bin .sub(.t 114)(.k(.i .i64 2))),oz 116(.mv(.t 15)),oz 117(.bin .add(.t 116)(.k(.i .u32 1))),oz 118(.ixs(.k(.s Fd))(.t 117)),oz 119(.mv(.t 15)),oz 120(.ixs(.k(.s Fd))(.t 119)),oz 121(.ias 1(.t 110)(.t 112)),on(.st 1(.t 121)(.t 118)),oz 122(.ias 1(.t 113)(.t 115)),on(.st 1(.t 122)(.t 120))] [some(0,0),some(0,0),some(0,0),some(0,1),some(0,1),some(0,1),some(0,0),some(0,0),some(0,0),some(0,1),some(0,1),some(0,0),none,some(1,1),none])(.seq(.regd [oz 123(.mv(.t 0)),oz 124(.mv(.t 4)),oz 125(.bin .sub(.t 124)(.k(.i .i64 3))),oz 126(.mv(.t 0)),oz 127(.mv(.t 4)),oz 128(.bin .sub(.t 127)(.k(.i .i64 4))),oz 129(.mv(.t 14)),oz 130(.bin .add(.t 129)(.k(.i .u32 1))),oz 131(.ixs(.k(.s Fd))(.t 130)),oz 132(.mv(.t 14)),oz 133(.ixs(.k(.s Fd))(.t 132)),oz 134(.ias 1(.t 123)(.t 125)),on(.st 1(.t 134)(.t 131)),oz 135(.ias 1(.t 126)(.t 128)),on(.st 1(.t 135)(.t 133))] [some(0,0),some(0,0),some(0,0),some(0,1),some(0,1),some(0,1),some(0,0),some(0,0),some(0,0),some(0,1),some(0,1),some(0,0),none,some(1,1),none])
  (rg false [oz 136(.mv(.t 4)),oz 137(.bin .sub(.t 136)(.k(.i .i64 4))),oz 4(.mv(.t 137))])))))) .skip))(.seq(.seq(rg false [oz 138(.mv(.t 4)),oz 139(.bin .geq(.t 138)(.k(.i .i64 2)))])(.cond(.t 139)(.seq(rg false [oz 140(.mv(.t 12)),oz 141(.bin .rem(.t 140)(.k(.i .u32 100))),oz 142(.bin .mul(.t 141)(.k(.i .u32 2))),oz 16(.mv(.t 142))])(.seq(rg false [oz 143(.mv(.t 12)),oz 144(.bin .quo(.t 143)(.k(.i .u32 100))),oz 12(.mv(.t 144))])(.seq(.regd [oz 145(.mv(.t 0)),oz 146(.mv(.t 4)),oz 147(.bin .sub(.t 146)(.k(.i .i64 1))),oz 148(.mv(.t 0)),oz 149(.mv(.t 4)),oz 150(.bin .sub(.t 149)(.k(.i .i64 2))),oz 151(.mv(.t 16)),oz 152(.bin .add(.t 151)(.k(.i .u32 1))),oz 153(.ixs(.k(.s Fd))(.t 152)),oz 154(.mv(.t 16)),oz 155(.ixs(.k(.s Fd))(.t 154)),oz 156(.ias 1(.t 145)(.t 147)),on(.st 1(.t 156)(.t 153)),oz 157(.ias 1(.t 148)(.t 150)),on(.st 1(.t 157)(.t 155))] [some(0,0),some(0,0),some(0,0),some(0,1),some(0,1),some(0,1),some(0,0),some(0,0),some(0,0),some(0,1),some(0,1),some(0,0),none,some(1,1),none])(rg false [oz 158(.mv(.t 4)),oz 159(.bin .sub(.t 158)(.k(.i .i64 2))),oz 4(.mv(.t 159))])))) .skip))(.seq(rg false [oz 160(.mv(.t 4)),oz 161(.bin .gtr(.t 160)(.k(.i .i64 0)))])(.cond(.t 161)(rg false [oz 162(.mv(.t 0)),oz 163(.mv(.t 12)),oz 164(.bin .add(.k(.i .u32 48))(.t 163)),oz 165(.cvi .u8(.t 164)),oz 166(.ias 1(.t 162)(.k(.i .i64 0))),on(.st 1(.t 166)(.t 165))]) .skip)))))))⟩
noncomputable def Eh:CM:=⟨false,1,17,[.tmp 2],(.seq(rg false [oz 2(.mv(.k(.b false)))])(.seq(.blk 0(.seq(rg false [oz 4(.mv(.t 0)),oz 5(.bin .leq(.k(.i .i32 0))(.t 4)),oz 6(.mv(.t 5)),⟨some 7,some(6,true), .mv(.t 0)⟩,⟨some 8,some(6,true), .bin .lss(.t 7)(.k(.i .i32 55296))⟩,oz 9(.pick(.t 6)(.t 8)(.k(.b false))),oz 3(.mv(.t 9))])(.cond(.t 3)(.seq(rg false [oz 2(.mv(.k(.b true)))]) .ret)(.seq(rg false [oz 11(.mv(.t 0)),oz 12(.bin .lss(.k(.i .i32 57343))(.t 11)),oz 13(.mv(.t 12)),⟨some 14,some(13,true), .mv(.t 0)⟩,⟨some 15,some(13,true), .bin .leq(.t 14)(.k(.i .i32 1114111))⟩,oz 16(.pick(.t 13)(.t 15)(.k(.b false))),oz 10(.mv(.t 16))])(.cond(.t 10)(.seq(rg false [oz 2(.mv(.k(.b true)))]) .ret) .skip)))))(.seq(rg false [oz 2(.mv(.k(.b false)))]) .ret)))⟩
noncomputable def Hs:CM:=⟨false,1,6,[.tmp 2],(.seq(rg false [oz 2(.mv(.k(.i .i64 0)))])(.seq(rg false [oz 3(.mv(.t 0)),oz 4(.bin .add(.t 3)(.k(.i .i64 16))),oz 5(.bin .quo(.t 4)(.k(.i .i64 8))),oz 2(.mv(.t 5))]) .ret))⟩
noncomputable def Gi:AC:=(.seq(.seq(rg false [oz 18(.mv(.t 9)),oz 19(.mv(.t 7)),oz 20(.bin .lss(.t 18)(.t 19))])(.cond(.t 20) .skip(.exit 0)))(.seq(.blk 1(rg false [oz 23(.mv(.t 8)),oz 24(.bin .mul(.t 23)(.k(.i .u32 16777619))),oz 25(.mv(.t 0)),oz 26(.mv(.t 9)),oz 27(.ixs(.t 25)(.t 26)),oz 28(.cvi .u32(.t 27)),oz 29(.bin .add(.t 24)(.t 28)),oz 8(.mv(.t 29))]))(rg false [oz 21(.mv(.t 9)),oz 22(.bin .add(.t 21)(.k(.i .i64 1))),oz 9(.mv(.t 22))])))
noncomputable def Gh:AC:=(.seq(.seq(rg false [oz 41(.mv(.t 10)),oz 42(.mv(.t 0)),oz 43(.lens(.t 42)),oz 44(.bin .lss(.t 41)(.t 43))])(.cond(.t 44) .skip(.exit 2)))(.blk 3(.seq(rg false [oz 45(.mv(.t 8)),oz 46(.bin .mul(.t 45)(.k(.i .u32 16777619))),oz 8(.mv(.t 46))])(.seq(rg false [oz 47(.mv(.t 8)),oz 48(.mv(.t 0)),oz 49(.mv(.t 10)),oz 50(.ixs(.t 48)(.t 49)),oz 51(.cvi .u32(.t 50)),oz 52(.bin .add(.t 47)(.t 51)),oz 8(.mv(.t 52))])(.seq(rg false [oz 53(.mv(.t 8)),oz 54(.mv(.t 6)),oz 55(.mv(.t 0)),oz 56(.mv(.t 10)),oz 57(.mv(.t 7)),oz 58(.bin .sub(.t 56)(.t 57)),oz 59(.ixs(.t 55)(.t 58)),oz 60(.cvi .u32(.t 59)),oz 61(.bin .mul(.t 54)(.t 60)),oz 62(.bin .sub(.t 53)(.t 61)),oz 8(.mv(.t 62))])(.seq(rg false [oz 63(.mv(.t 10)),oz 64(.bin .add(.t 63)(.k(.i .i64 1))),oz 10(.mv(.t 64))])(.seq(rg false [oz 65(.mv(.t 8)),oz 66(.mv(.t 5)),oz 67(.bin .eql(.t 65)(.t 66)),oz 68(.mv(.t 67)),⟨some 69,some(68,true), .mv(.t 0)⟩,⟨some 70,some(68,true), .mv(.t 10)⟩,⟨some 71,some(68,true), .mv(.t 7)⟩,⟨some 72,some(68,true), .bin .sub(.t 70)(.t 71)⟩,⟨some 73,some(68,true), .mv(.t 10)⟩,⟨some 74,some(68,true), .sls(.t 69)(some(.t 72))(some(.t 73))⟩,⟨some 75,some(68,true), .mv(.t 1)⟩,⟨some 76,some(68,true), .bin .eql(.t 74)(.t 75)⟩,oz 77(.pick(.t 68)(.t 76)(.k(.b false)))])(.cond(.t 77)(.seq(rg false [oz 78(.mv(.t 10)),oz 79(.mv(.t 7)),oz 80(.bin .sub(.t 78)(.t 79)),oz 4(.mv(.t 80))]) .ret) .skip))))))))
noncomputable def C4:CM:=⟨false,2,81,[.tmp 4],(.seq(rg false [oz 4(.mv(.k(.i .i64 0)))])(.seq(rg false [oz 12(.mv(.t 1)),oz 13(.call B5 [(.t 12)]),oz 11(.mv(.t 13)),oz 14(.ext(.t 11)0),oz 15(.ext(.t 11)1),oz 5(.mv(.t 14)),oz 6(.mv(.t 15))])(.seq(rg false [oz 16(.mv(.t 1)),oz 17(.lens(.t 16)),oz 7(.mv(.t 17))])(.seq(rg false [oz 8(.mv(.k(.i .u32 0)))])(.seq(.seq(rg false [oz 9(.mv(.k(.i .i64 0)))])(.blk 0(.loop [0,1,5,6,7,8,9]Gi)))(.seq(.seq(rg false [oz 30(.mv(.t 8)),oz 31(.mv(.t 5)),oz 32(.bin .eql(.t 30)(.t 31)),oz 33(.mv(.t 32)),⟨some 34,some(33,true), .mv(.t 0)⟩,⟨some 35,some(33,true), .mv(.t 7)⟩,⟨some 36,some(33,true), .sls(.t 34)none(some(.t 35))⟩,⟨some 37,some(33,true), .mv(.t 1)⟩,⟨some 38,some(33,true), .bin .eql(.t 36)(.t 37)⟩,oz 39(.pick(.t 33)(.t 38)(.k(.b false)))])(.cond(.t 39)(.seq(rg false [oz 4(.mv(.k(.i .i64 0)))]) .ret) .skip))(.seq(.seq(rg false [oz 40(.mv(.t 7)),oz 10(.mv(.t 40))])(.blk 2(.loop [0,1,5,6,7,8,10]Gh)))(.seq(rg false [oz 4(.mv(.k(.i .i64(-1))))]) .ret))))))))⟩
noncomputable def Tn:AC:=(.seq(rg false [oz 13(.bin .lss(.t 12)(.t 11))])(.seq(.cond(.t 13) .skip(.exit 0))(.seq(.blk 1(.seq(rg false [oz 14(.ias 1(.t 10)(.t 12)),oz 15(.ld false 1(.t 14)),oz 6(.mv(.t 15))])(rg false [oz 16(.mv(.t 4)),oz 17(.bin .shl(.t 16)(.k(.i .u64 8))),oz 18(.mv(.t 6)),oz 19(.cvi .u64(.t 18)),oz 20(.bin .or(.t 17)(.t 19)),oz 4(.mv(.t 20))])))(rg false [oz 21(.bin .add(.t 12)(.k(.i .i64 1))),oz 12(.mv(.t 21))]))))
noncomputable def J2:CM:=⟨false,1,23,[.tmp 2, .tmp 3],(.seq(rg false [oz 2(.mv(.k(.i .u64 0))),oz 3(.mv(.k(.i .i64 0)))])(.seq(.seq(rg false [oz 7(.mv(.t 0)),oz 8(.call Fj [(.t 7)]),oz 9(.un .not(.t 8))])(.cond(.t 9)(.seq(rg false [oz 2(.mv(.k(.i .u64 0))),oz 3(.mv(.k(.i .i64 1)))]) .ret) .skip))(.seq(rg false [oz 4(.mv(.k(.i .u64 0)))])(.seq(.seq(rg false [oz 10(.mv(.t 0)),oz 11(.len(.t 10)),oz 12(.mv(.k(.i .i64 0)))])(.blk 0(.loop [4,10,11,12]Tn)))(.seq(rg false [oz 22(.mv(.t 4)),oz 2(.mv(.t 22)),oz 3(.mv(.k(.i .i64 0)))]) .ret)))))⟩
noncomputable def Ut:AC:=(.blk 1(.seq(rg false [oz 4(.mv(.t 0)),oz 5(.bin .and(.t 4)(.k(.i .u16 15))),oz 6(.ixs(.k(.s [48,49,50,51,52,53,54,55,56,57,97,98,99,100,101,102]))(.t 5)),oz 7(.cvc(.t 6)),oz 8(.mv(.t 3)),oz 9(.bin .add(.t 7)(.t 8)),oz 3(.mv(.t 9))])(.seq(rg false [oz 10(.mv(.t 0)),oz 11(.bin .shr(.t 10)(.k(.i .u64 4))),oz 0(.mv(.t 11))])(.seq(rg false [oz 12(.mv(.t 0)),oz 13(.bin .eql(.t 12)(.k(.i .u16 0)))])(.cond(.t 13)(.seq(rg false [oz 14(.mv(.t 3)),oz 2(.mv(.t 14))]) .ret) .skip)))))
noncomputable def Ko:CM:=⟨false,1,15,[.tmp 2],(.seq(rg false [oz 2(.mv(.k(.s [])))])(.seq(rg false [oz 3(.mv(.k(.s [])))])(.blk 0(.loop [0,3]Ut))))⟩
noncomputable def Dq:CM:=⟨false,1,6,[.tmp 2],(.seq(rg false [oz 2(.mv(.k(.i .i64 0)))])(.seq(rg false [oz 3(.mv(.t 0)),oz 4(.bin .mul(.t 3)(.k(.i .i64 78913))),oz 5(.bin .shr(.t 4)(.k(.i .u64 18))),oz 2(.mv(.t 5))]) .ret))⟩
noncomputable def GZ:CM:=⟨false,1,25,[.tmp 2],(.seq(rg false [oz 2(.mv(.k(.i .i64 0)))])(.seq(.seq(rg false [oz 3(.mv(.t 0)),oz 4(.bin .geq(.t 3)(.k(.i .u64 4294967296)))])(.cond(.t 4)(.seq(rg false [oz 5(.mv(.t 0)),oz 6(.bin .shr(.t 5)(.k(.i .u64 32))),oz 0(.mv(.t 6))])(rg false [oz 2(.mv(.k(.i .i64 32)))])) .skip))(.seq(.seq(rg false [oz 7(.mv(.t 0)),oz 8(.bin .geq(.t 7)(.k(.i .u64 65536)))])(.cond(.t 8)(.seq(rg false [oz 9(.mv(.t 0)),oz 10(.bin .shr(.t 9)(.k(.i .u64 16))),oz 0(.mv(.t 10))])(rg false [oz 11(.mv(.t 2)),oz 12(.bin .add(.t 11)(.k(.i .i64 16))),oz 2(.mv(.t 12))])) .skip))(.seq(.seq(rg false [oz 13(.mv(.t 0)),oz 14(.bin .geq(.t 13)(.k(.i .u64 256)))])(.cond(.t 14)(.seq(rg false [oz 15(.mv(.t 0)),oz 16(.bin .shr(.t 15)(.k(.i .u64 8))),oz 0(.mv(.t 16))])(rg false [oz 17(.mv(.t 2)),oz 18(.bin .add(.t 17)(.k(.i .i64 8))),oz 2(.mv(.t 18))])) .skip))(.seq(rg false [oz 19(.mv(.t 2)),oz 20(.mv(.t 0)),oz 21(.cvi .u8(.t 20)),oz 22(.ixs(.k(.s str_1))(.t 21)),oz 23(.cvi .i64(.t 22)),oz 24(.bin .add(.t 19)(.t 23)),oz 2(.mv(.t 24))]) .ret)))))⟩
noncomputable def Dr:CM:=⟨false,1,4,[.tmp 2],(.seq(rg false [oz 2(.mv(.k(.i .i64 0)))])(.seq(.seq(rg false [oz 3(.mv(.t 0))])(.cond(.t 3)(.seq(rg false [oz 2(.mv(.k(.i .i64 1)))]) .ret) .skip))(.seq(rg false [oz 2(.mv(.k(.i .i64 0)))]) .ret)))⟩
noncomputable def HY:AC:=(.seq(.seq(rg false [oz 9(.mv(.t 5)),oz 10(.mv(.t 0)),oz 11(.lens(.t 10)),oz 12(.bin .lss(.t 9)(.t 11))])(.cond(.t 12) .skip(.exit 0)))(.seq(.blk 1(rg false [oz 15(.mv(.t 4)),oz 16(.bin .mul(.t 15)(.k(.i .u32 16777619))),oz 17(.mv(.t 0)),oz 18(.mv(.t 5)),oz 19(.ixs(.t 17)(.t 18)),oz 20(.cvi .u32(.t 19)),oz 21(.bin .add(.t 16)(.t 20)),oz 4(.mv(.t 21))]))(rg false [oz 13(.mv(.t 5)),oz 14(.bin .add(.t 13)(.k(.i .i64 1))),oz 5(.mv(.t 14))])))
noncomputable def HX:AC:=(.seq(.seq(rg false [oz 24(.mv(.t 8)),oz 25(.bin .gtr(.t 24)(.k(.i .i64 0)))])(.cond(.t 25) .skip(.exit 2)))(.seq(.blk 3(.seq(.seq(rg false [oz 28(.mv(.t 8)),oz 29(.bin .and(.t 28)(.k(.i .i64 1))),oz 30(.bin .neq(.t 29)(.k(.i .i64 0)))])(.cond(.t 30)(rg false [oz 31(.mv(.t 6)),oz 32(.mv(.t 7)),oz 33(.bin .mul(.t 31)(.t 32)),oz 6(.mv(.t 33))]) .skip))(rg false [oz 34(.mv(.t 7)),oz 35(.mv(.t 7)),oz 36(.bin .mul(.t 34)(.t 35)),oz 7(.mv(.t 36))])))(rg false [oz 26(.mv(.t 8)),oz 27(.bin .shr(.t 26)(.k(.i .u64 1))),oz 8(.mv(.t 27))])))
noncomputable def C0:CM:=⟨false,1,39,[.tmp 2, .tmp 3],(.seq(rg false [oz 2(.mv(.k(.i .u32 0))),oz 3(.mv(.k(.i .u32 0)))])(.seq(rg false [oz 4(.mv(.k(.i .u32 0)))])(.seq(.seq(rg false [oz 5(.mv(.k(.i .i64 0)))])(.blk 0(.loop [0,4,5]HY)))(.seq(rg false [oz 6(.mv(.k(.i .u32 1))),oz 7(.mv(.k(.i .u32 16777619)))])(.seq(.seq(rg false [oz 22(.mv(.t 0)),oz 23(.lens(.t 22)),oz 8(.mv(.t 23))])(.blk 2(.loop [4,6,7,8]HX)))(.seq(rg false [oz 37(.mv(.t 4)),oz 38(.mv(.t 6)),oz 2(.mv(.t 37)),oz 3(.mv(.t 38))]) .ret))))))⟩
noncomputable def J1:CM:=⟨false,1,11,[.tmp 2],(.seq(rg false [oz 2(.mv(.k(.b false)))])(.seq(rg false [oz 3(.mv(.t 0)),oz 4(.len(.t 3)),oz 5(.bin .geq(.t 4)(.k(.i .i64 1))),oz 6(.mv(.t 5)),⟨some 7,some(6,true), .mv(.t 0)⟩,⟨some 8,some(6,true), .len(.t 7)⟩,⟨some 9,some(6,true), .bin .leq(.t 8)(.k(.i .i64 8))⟩,oz 10(.pick(.t 6)(.t 9)(.k(.b false))),oz 2(.mv(.t 10))]) .ret))⟩
def tV:(Ar AN 17):=⟨[[],[112,114,105,118,97,116,101,95,107,101,121],[108,105,115,116,101,110,95,112,111,114,116],[102,119,109,97,114,107],[114,101,112,108,97,99,101,95,112,101,101,114,115],[112,117,98,108,105,99,95,107,101,121],[114,101,109,111,118,101],[117,112,100,97,116,101,95,111,110,108,121],[112,114,101,115,104,97,114,101,100,95,107,101,121],[101,110,100,112,111,105,110,116],[112,101,114,115,105,115,116,101,110,116,95,107,101,101,112,97,108,105,118,101,95,105,110,116,101,114,118,97,108],[114,101,112,108,97,99,101,95,97,108,108,111,119,101,100,95,105,112,115],[97,108,108,111,119,101,100,95,105,112],[112,114,111,116,111,99,111,108,95,118,101,114,115,105,111,110],[116,120,95,98,121,116,101,115],[114,120,95,98,121,116,101,115],[101,114,114,110,111]],rfl⟩
def gl_0:List AV:=tV.l.map AV.s
theorem gm_0:Bh gl_0=0:=vG AV.s(fun _=>rfl)_
theorem gr_0: ∀P H,(Ay 17 Ax).R P H gl_0 tV:=fun _ _=>tab_R tV
def nV:(Ar UInt64 20):=⟨[1,10,100,1000,10000,100000,1000000,10000000,100000000,1000000000,10000000000,100000000000,1000000000000,10000000000000,100000000000000,1000000000000000,10000000000000000,100000000000000000,1000000000000000000,10000000000000000000],rfl⟩
def gl_2:List AV:=nV.l.map(fun(x:UInt64)=>AV.i .u64 x.toNat)
theorem gm_2:Bh gl_2=0:=vG(fun(x:UInt64)=>AV.i .u64 x.toNat)(fun _=>rfl)_
theorem gr_2: ∀P H,(Ay 20 T.u64).R P H gl_2 nV:=fun _ _=>tab_R nV
noncomputable def gll:List(Nat×List AV):=[(0,gl_0),(2,gl_2)]
noncomputable def fnl:List(Nat×CM):=[(DW,Ha),(HE,M3),(HB,Mv),(G6,M7),(EW,Kq),(IR,O7),(HA,Mu),(Eu,HR),(FW,Kn),(G2,Mw),(Ew,Jv),(GO,Lu),(HD,M1),(IW,OC),(Df,OK),(G5,M2),(GP,Lv),(GM,Ls),(FY,Kp),(DD,HP),(Ey,Jx),(C2,O6),(Hn,OB),(G3,Mx),(IY,OE),(Ee,M0),(CX,FK),(Be,DM),(BG,EY),(E6,M4),(Gj,OF),(FB,Lr),(FV,Km),(DX,Iw),(Dg,HQ),(EI,Iu),(GQ,Lw),(IV,OA),(IU,O9),(G4,Mz),(IZ,OG),(Ja,OH),(Fi,Jw),(EJ,Iv),(Jd,OL),(Dn,J3),(B4,Er),(CG,FS),(Jb,OI),(Jc,OJ),(EF,Lz),(HJ,MA),(D9,L1),(CP,Fb),(DH,GB),(Ga,Kr),(EL,KU),(FF,Lx),(Hm,Qz),(JU,Qy),(IX,OD),(IS,O8),(H9,Mt),(HC,My),(BK,Es),(FG,L0),(Fx,MB),(Dk,Fz),(Bj,C9),(GN,Lt),(IF,Q0),(Ho,Q1),(JW,Q2),(HL,MD),(HM,ME),(DG,GA),(EH,It),(Hp,MX),(Hq,MY),(FZ,KW),(CV,KV),(Ik,OM),(HF,M6),(GR,Ly),(BL,Di),(E7,M5),(HK,MC),(EN,I3),(CF,FQ),(BV,D6),(CC,EB),(BJ,Dh),(BN,Do),(CS,Iy),(CQ,Ix),(CU,I1),(CT,Iz),(Cs,Hd),(HI,M9),(Cr,Hc),(Bm,J0),(Bi,Hb),(Dm,Jz),(Dl,Jy),(Fl,J4),(EM,I2),(Fw,M8),(Cq,Ei),(BO,Dp),(BY,DN),(Cp,Eh),(D4,Hs),(Cv,C4),(Fk,J2),(FX,Ko),(BP,Dq),(DV,GZ),(BQ,Dr),(B5,C0),(Fj,J1)]
def prl:List(Nat×(List AV→Av→Option(AV×Option Av))):=[(Cm,Xb),(FE,OU),(D5,P7),(Fh,(ZG 107 5))]
noncomputable def tb:CZ:=⟨fun n=>mY n fnl,fun n=>mY n gll,fun n=>mY n prl⟩
theorem SW:tb.prim DW=none∧tb.fns DW=some Ha:=⟨rfl,rfl⟩
theorem kM:tb.prim HE=none∧tb.fns HE=some M3:=⟨rfl,rfl⟩
theorem kE:tb.prim HB=none∧tb.fns HB=some Mv:=⟨rfl,rfl⟩
theorem kQ:tb.prim G6=none∧tb.fns G6=some M7:=⟨rfl,rfl⟩
theorem Zi:tb.prim EW=none∧tb.fns EW=some Kq:=⟨rfl,rfl⟩
theorem oA:tb.prim IR=none∧tb.fns IR=some O7:=⟨rfl,rfl⟩
theorem kD:tb.prim HA=none∧tb.fns HA=some Mu:=⟨rfl,rfl⟩
theorem Uq:tb.prim Eu=none∧tb.fns Eu=some HR:=⟨rfl,rfl⟩
theorem Zf:tb.prim FW=none∧tb.fns FW=some Kn:=⟨rfl,rfl⟩
theorem kF:tb.prim G2=none∧tb.fns G2=some Mw:=⟨rfl,rfl⟩
theorem X9:tb.prim Ew=none∧tb.fns Ew=some Jv:=⟨rfl,rfl⟩
theorem eB:tb.prim GO=none∧tb.fns GO=some Lu:=⟨rfl,rfl⟩
theorem kK:tb.prim HD=none∧tb.fns HD=some M1:=⟨rfl,rfl⟩
theorem oF:tb.prim IW=none∧tb.fns IW=some OC:=⟨rfl,rfl⟩
theorem oN:tb.prim Df=none∧tb.fns Df=some OK:=⟨rfl,rfl⟩
theorem kL:tb.prim G5=none∧tb.fns G5=some M2:=⟨rfl,rfl⟩
theorem eC:tb.prim GP=none∧tb.fns GP=some Lv:=⟨rfl,rfl⟩
theorem dZ:tb.prim GM=none∧tb.fns GM=some Ls:=⟨rfl,rfl⟩
theorem Zh:tb.prim FY=none∧tb.fns FY=some Kp:=⟨rfl,rfl⟩
theorem Uo:tb.prim DD=none∧tb.fns DD=some HP:=⟨rfl,rfl⟩
theorem XC:tb.prim Ey=none∧tb.fns Ey=some Jx:=⟨rfl,rfl⟩
theorem nZ:tb.prim C2=none∧tb.fns C2=some O6:=⟨rfl,rfl⟩
theorem oE:tb.prim Hn=none∧tb.fns Hn=some OB:=⟨rfl,rfl⟩
theorem kG:tb.prim G3=none∧tb.fns G3=some Mx:=⟨rfl,rfl⟩
theorem oH:tb.prim IY=none∧tb.fns IY=some OE:=⟨rfl,rfl⟩
theorem kJ:tb.prim Ee=none∧tb.fns Ee=some M0:=⟨rfl,rfl⟩
theorem MS:tb.prim CX=none∧tb.fns CX=some FK:=⟨rfl,rfl⟩
theorem Ci:tb.prim Be=none∧tb.fns Be=some DM:=⟨rfl,rfl⟩
theorem EX:tb.prim BG=none∧tb.fns BG=some EY:=⟨rfl,rfl⟩
theorem kN:tb.prim E6=none∧tb.fns E6=some M4:=⟨rfl,rfl⟩
theorem oI:tb.prim Gj=none∧tb.fns Gj=some OF:=⟨rfl,rfl⟩
theorem dY:tb.prim FB=none∧tb.fns FB=some Lr:=⟨rfl,rfl⟩
theorem Ze:tb.prim FV=none∧tb.fns FV=some Km:=⟨rfl,rfl⟩
theorem VI:tb.prim DX=none∧tb.fns DX=some Iw:=⟨rfl,rfl⟩
theorem Up:tb.prim Dg=none∧tb.fns Dg=some HQ:=⟨rfl,rfl⟩
theorem VG:tb.prim EI=none∧tb.fns EI=some Iu:=⟨rfl,rfl⟩
theorem eD:tb.prim GQ=none∧tb.fns GQ=some Lw:=⟨rfl,rfl⟩
theorem oD:tb.prim IV=none∧tb.fns IV=some OA:=⟨rfl,rfl⟩
theorem oC:tb.prim IU=none∧tb.fns IU=some O9:=⟨rfl,rfl⟩
theorem kI:tb.prim G4=none∧tb.fns G4=some Mz:=⟨rfl,rfl⟩
theorem oJ:tb.prim IZ=none∧tb.fns IZ=some OG:=⟨rfl,rfl⟩
theorem oK:tb.prim Ja=none∧tb.fns Ja=some OH:=⟨rfl,rfl⟩
theorem XB:tb.prim Fi=none∧tb.fns Fi=some Jw:=⟨rfl,rfl⟩
theorem VH:tb.prim EJ=none∧tb.fns EJ=some Iv:=⟨rfl,rfl⟩
theorem oO:tb.prim Jd=none∧tb.fns Jd=some OL:=⟨rfl,rfl⟩
theorem XH:tb.prim Dn=none∧tb.fns Dn=some J3:=⟨rfl,rfl⟩
theorem Bz:tb.prim B4=none∧tb.fns B4=some Er:=⟨rfl,rfl⟩
theorem QM:tb.prim CG=none∧tb.fns CG=some FS:=⟨rfl,rfl⟩
theorem oL:tb.prim Jb=none∧tb.fns Jb=some OI:=⟨rfl,rfl⟩
theorem oM:tb.prim Jc=none∧tb.fns Jc=some OJ:=⟨rfl,rfl⟩
theorem eG:tb.prim EF=none∧tb.fns EF=some Lz:=⟨rfl,rfl⟩
theorem kT:tb.prim HJ=none∧tb.fns HJ=some MA:=⟨rfl,rfl⟩
theorem eI:tb.prim D9=none∧tb.fns D9=some L1:=⟨rfl,rfl⟩
theorem Po:tb.prim CP=none∧tb.fns CP=some Fb:=⟨rfl,rfl⟩
theorem RM:tb.prim DH=none∧tb.fns DH=some GB:=⟨rfl,rfl⟩
theorem Zj:tb.prim Ga=none∧tb.fns Ga=some Kr:=⟨rfl,rfl⟩
theorem OZ:tb.prim EL=none∧tb.fns EL=some KU:=⟨rfl,rfl⟩
theorem eE:tb.prim FF=none∧tb.fns FF=some Lx:=⟨rfl,rfl⟩
theorem uA:tb.prim Hm=none∧tb.fns Hm=some Qz:=⟨rfl,rfl⟩
theorem tZ:tb.prim JU=none∧tb.fns JU=some Qy:=⟨rfl,rfl⟩
theorem oG:tb.prim IX=none∧tb.fns IX=some OD:=⟨rfl,rfl⟩
theorem oB:tb.prim IS=none∧tb.fns IS=some O8:=⟨rfl,rfl⟩
theorem kC:tb.prim H9=none∧tb.fns H9=some Mt:=⟨rfl,rfl⟩
theorem kH:tb.prim HC=none∧tb.fns HC=some My:=⟨rfl,rfl⟩
theorem Gl:tb.prim BK=none∧tb.fns BK=some Es:=⟨rfl,rfl⟩
theorem eH:tb.prim FG=none∧tb.fns FG=some L0:=⟨rfl,rfl⟩
theorem kU:tb.prim Fx=none∧tb.fns Fx=some MB:=⟨rfl,rfl⟩
theorem PQ:tb.prim Dk=none∧tb.fns Dk=some Fz:=⟨rfl,rfl⟩
theorem Jt:tb.prim Bj=none∧tb.fns Bj=some C9:=⟨rfl,rfl⟩
theorem eA:tb.prim GN=none∧tb.fns GN=some Lt:=⟨rfl,rfl⟩
theorem uB:tb.prim IF=none∧tb.fns IF=some Q0:=⟨rfl,rfl⟩
theorem uC:tb.prim Ho=none∧tb.fns Ho=some Q1:=⟨rfl,rfl⟩
theorem uD:tb.prim JW=none∧tb.fns JW=some Q2:=⟨rfl,rfl⟩
theorem kW:tb.prim HL=none∧tb.fns HL=some MD:=⟨rfl,rfl⟩
theorem kX:tb.prim HM=none∧tb.fns HM=some ME:=⟨rfl,rfl⟩
theorem RL:tb.prim DG=none∧tb.fns DG=some GA:=⟨rfl,rfl⟩
theorem VF:tb.prim EH=none∧tb.fns EH=some It:=⟨rfl,rfl⟩
theorem Rj:tb.prim Hp=none∧tb.fns Hp=some MX:=⟨rfl,rfl⟩
theorem Rk:tb.prim Hq=none∧tb.fns Hq=some MY:=⟨rfl,rfl⟩
theorem Pa:tb.prim FZ=none∧tb.fns FZ=some KW:=⟨rfl,rfl⟩
theorem CL:tb.prim CV=none∧tb.fns CV=some KV:=⟨rfl,rfl⟩
theorem SX:tb.prim Ik=none∧tb.fns Ik=some OM:=⟨rfl,rfl⟩
theorem kP:tb.prim HF=none∧tb.fns HF=some M6:=⟨rfl,rfl⟩
theorem eF:tb.prim GR=none∧tb.fns GR=some Ly:=⟨rfl,rfl⟩
theorem KD:tb.prim BL=none∧tb.fns BL=some Di:=⟨rfl,rfl⟩
theorem kO:tb.prim E7=none∧tb.fns E7=some M5:=⟨rfl,rfl⟩
theorem kV:tb.prim HK=none∧tb.fns HK=some MC:=⟨rfl,rfl⟩
theorem VO:tb.prim EN=none∧tb.fns EN=some I3:=⟨rfl,rfl⟩
theorem QL:tb.prim CF=none∧tb.fns CF=some FQ:=⟨rfl,rfl⟩
theorem Ll:tb.prim BV=none∧tb.fns BV=some D6:=⟨rfl,rfl⟩
theorem Ou:tb.prim CC=none∧tb.fns CC=some EB:=⟨rfl,rfl⟩
theorem KC:tb.prim BJ=none∧tb.fns BJ=some Dh:=⟨rfl,rfl⟩
theorem KQ:tb.prim BN=none∧tb.fns BN=some Do:=⟨rfl,rfl⟩
theorem VK:tb.prim CS=none∧tb.fns CS=some Iy:=⟨rfl,rfl⟩
theorem VJ:tb.prim CQ=none∧tb.fns CQ=some Ix:=⟨rfl,rfl⟩
theorem VM:tb.prim CU=none∧tb.fns CU=some I1:=⟨rfl,rfl⟩
theorem VL:tb.prim CT=none∧tb.fns CT=some Iz:=⟨rfl,rfl⟩
theorem Ta:tb.prim Cs=none∧tb.fns Cs=some Hd:=⟨rfl,rfl⟩
theorem kS:tb.prim HI=none∧tb.fns HI=some M9:=⟨rfl,rfl⟩
theorem SZ:tb.prim Cr=none∧tb.fns Cr=some Hc:=⟨rfl,rfl⟩
theorem Mp:tb.prim Bm=none∧tb.fns Bm=some J0:=⟨rfl,rfl⟩
theorem SY:tb.prim Bi=none∧tb.fns Bi=some Hb:=⟨rfl,rfl⟩
theorem XE:tb.prim Dm=none∧tb.fns Dm=some Jz:=⟨rfl,rfl⟩
theorem XD:tb.prim Dl=none∧tb.fns Dl=some Jy:=⟨rfl,rfl⟩
theorem XI:tb.prim Fl=none∧tb.fns Fl=some J4:=⟨rfl,rfl⟩
theorem VN:tb.prim EM=none∧tb.fns EM=some I2:=⟨rfl,rfl⟩
theorem kR:tb.prim Fw=none∧tb.fns Fw=some M8:=⟨rfl,rfl⟩
theorem MT:tb.prim Cq=none∧tb.fns Cq=some Ei:=⟨rfl,rfl⟩
theorem KR:tb.prim BO=none∧tb.fns BO=some Dp:=⟨rfl,rfl⟩
theorem JE:tb.prim BY=none∧tb.fns BY=some DN:=⟨rfl,rfl⟩
theorem MR:tb.prim Cp=none∧tb.fns Cp=some Eh:=⟨rfl,rfl⟩
theorem XG:tb.prim Fk=none∧tb.fns Fk=some J2:=⟨rfl,rfl⟩
theorem Zg:tb.prim FX=none∧tb.fns FX=some Ko:=⟨rfl,rfl⟩
theorem KS:tb.prim BP=none∧tb.fns BP=some Dq:=⟨rfl,rfl⟩
theorem SV:tb.prim DV=none∧tb.fns DV=some GZ:=⟨rfl,rfl⟩
theorem KT:tb.prim BQ=none∧tb.fns BQ=some Dr:=⟨rfl,rfl⟩
theorem Jh:tb.prim B5=none∧tb.fns B5=some C0:=⟨rfl,rfl⟩
theorem XF:tb.prim Fj=none∧tb.fns Fj=some J1:=⟨rfl,rfl⟩
end Go.Proofs.YtobejhpigbllpaaGreatDoor.Am
end
section
set_option linter.unusedVariables false
namespace Go.Proofs.YtobejhpigbllpaaGreatDoor.Am
open Go.Proofs Go.RowKit
set_option maxHeartbeats 2000000 in
set_option maxRecDepth 1000000 in
theorem zL:lT Tryz.prog 106 5:=by
 intro b n w h1 hb hf hn
 obtain⟨cs,hrun,hle,hmax⟩:=Lib.run_makeNoZero(P:=Tryz.prog)w.drew #[3]22 5(by kernel_rfl)n hn
 refine⟨cs,hle,?_⟩
 have hw:IntKind.i64.wrap(IntKind.i64.wrap 0+(n:Int))=n:=by
  rw[IntKind.wrap_i64,IntKind.wrap_i64]
  omega
 have hcall:(callFunc 143 #[.int .i64(IntKind.i64.wrap(IntKind.i64.wrap 0+(n:Int)))]).run Tryz.prog w.drew= .ok(.value(.slice(some⟨w.drew.heap.size,0,none⟩)n cs.size))(w.drew.drew.drew.alloc(.cells cs 5)):=by
  rw[hw,run_callFunc_extern Tryz.func143(by kernel_rfl)(by kernel_rfl)(by kernel_rfl)(e:=Extern.BytealgMakeNoZero.makeNoZero #[3] #[22])(by kernel_rfl),hrun]
  rfl
 have c1:w.drew.cell?⟨b,1,none⟩=some(.slice none 0 0):=h1
 have c2:(w.alloc(.cells cs 5)).cell?⟨b,1,none⟩=some(.slice none 0 0):=by
  have:(w.alloc(.cells cs 5)).heap[b]? =w.heap[b]? :=(Lib.alloc_old w _ b hb)
  simp only[World.cell?,this];exact h1
 have f2:(w.alloc(.cells cs 5)).frozen?⟨b,1,none⟩=false:=by
  have:(w.alloc(.cells cs 5)).heap[b]? =w.heap[b]? :=(Lib.alloc_old w _ b hb)
  simp only[World.frozen?,this];exact hf
 have hcopy: ∀W:World,(Builtin.copy_ #[22,22]3 #[.slice(some⟨w.heap.size,0,none⟩)0 cs.size, .slice none 0 0]).run Tryz.prog W= .ok(goInt 0)W:=
  fun W=>run_copy_none W 22 22 3 5 _ _ 0 cs.size 0 0(by kernel_rfl)(by kernel_rfl)rfl
 clear hw
 go_enter Tryz.func106,Tryz.ntmps106
 go_wp2
 go_region
 all_goals(go_wp2;go_end0;exact⟨rfl,rfl⟩)
end Go.Proofs.YtobejhpigbllpaaGreatDoor.Am
end
section
set_option linter.unusedVariables false
set_option maxRecDepth 100000
set_option maxHeartbeats 4000000
namespace Go.Proofs.YtobejhpigbllpaaGreatDoor.Am
open Go.Proofs
theorem SF:Bo(Bu Tryz.prog)Tryz.prog Ha DW=true:=by kernel_rfl
theorem iW:Bo(Bu Tryz.prog)Tryz.prog M3 HE=true:=by kernel_rfl
theorem iO:Bo(Bu Tryz.prog)Tryz.prog Mv HB=true:=by kernel_rfl
theorem jA:Bo(Bu Tryz.prog)Tryz.prog M7 G6=true:=by kernel_rfl
theorem YY:Bo(Bu Tryz.prog)Tryz.prog Kq EW=true:=by kernel_rfl
theorem nE:Bo(Bu Tryz.prog)Tryz.prog O7 IR=true:=by kernel_rfl
theorem iN:Bo(Bu Tryz.prog)Tryz.prog Mu HA=true:=by kernel_rfl
theorem Uf:Bo(Bu Tryz.prog)Tryz.prog HR Eu=true:=by kernel_rfl
theorem YV:Bo(Bu Tryz.prog)Tryz.prog Kn FW=true:=by kernel_rfl
theorem iP:Bo(Bu Tryz.prog)Tryz.prog Mw G2=true:=by kernel_rfl
theorem Xm:Bo(Bu Tryz.prog)Tryz.prog Jv Ew=true:=by kernel_rfl
theorem dE:Bo(Bu Tryz.prog)Tryz.prog Lu GO=true:=by kernel_rfl
theorem iU:Bo(Bu Tryz.prog)Tryz.prog M1 HD=true:=by kernel_rfl
theorem nJ:Bo(Bu Tryz.prog)Tryz.prog OC IW=true:=by kernel_rfl
theorem nR:Bo(Bu Tryz.prog)Tryz.prog OK Df=true:=by kernel_rfl
theorem iV:Bo(Bu Tryz.prog)Tryz.prog M2 G5=true:=by kernel_rfl
theorem dF:Bo(Bu Tryz.prog)Tryz.prog Lv GP=true:=by kernel_rfl
theorem dC:Bo(Bu Tryz.prog)Tryz.prog Ls GM=true:=by kernel_rfl
theorem YX:Bo(Bu Tryz.prog)Tryz.prog Kp FY=true:=by kernel_rfl
theorem Ud:Bo(Bu Tryz.prog)Tryz.prog HP DD=true:=by kernel_rfl
theorem Xo:Bo(Bu Tryz.prog)Tryz.prog Jx Ey=true:=by kernel_rfl
theorem nD:Bo(Bu Tryz.prog)Tryz.prog O6 C2=true:=by kernel_rfl
theorem nI:Bo(Bu Tryz.prog)Tryz.prog OB Hn=true:=by kernel_rfl
theorem iQ:Bo(Bu Tryz.prog)Tryz.prog Mx G3=true:=by kernel_rfl
theorem nL:Bo(Bu Tryz.prog)Tryz.prog OE IY=true:=by kernel_rfl
theorem iT:Bo(Bu Tryz.prog)Tryz.prog M0 Ee=true:=by kernel_rfl
theorem MM:Bo(Bu Tryz.prog)Tryz.prog FK CX=true:=by kernel_rfl
theorem JB:Bo(Bu Tryz.prog)Tryz.prog DM Be=true:=by kernel_rfl
theorem LN:Bo(Bu Tryz.prog)Tryz.prog EY BG=true:=by kernel_rfl
theorem iX:Bo(Bu Tryz.prog)Tryz.prog M4 E6=true:=by kernel_rfl
theorem nM:Bo(Bu Tryz.prog)Tryz.prog OF Gj=true:=by kernel_rfl
theorem dB:Bo(Bu Tryz.prog)Tryz.prog Lr FB=true:=by kernel_rfl
theorem YU:Bo(Bu Tryz.prog)Tryz.prog Km FV=true:=by kernel_rfl
theorem V5:Bo(Bu Tryz.prog)Tryz.prog Iw DX=true:=by kernel_rfl
theorem Ue:Bo(Bu Tryz.prog)Tryz.prog HQ Dg=true:=by kernel_rfl
theorem V3:Bo(Bu Tryz.prog)Tryz.prog Iu EI=true:=by kernel_rfl
theorem dH:Bo(Bu Tryz.prog)Tryz.prog Lw GQ=true:=by kernel_rfl
theorem nH:Bo(Bu Tryz.prog)Tryz.prog OA IV=true:=by kernel_rfl
theorem nG:Bo(Bu Tryz.prog)Tryz.prog O9 IU=true:=by kernel_rfl
theorem iS:Bo(Bu Tryz.prog)Tryz.prog Mz G4=true:=by kernel_rfl
theorem nN:Bo(Bu Tryz.prog)Tryz.prog OG IZ=true:=by kernel_rfl
theorem nO:Bo(Bu Tryz.prog)Tryz.prog OH Ja=true:=by kernel_rfl
theorem Xn:Bo(Bu Tryz.prog)Tryz.prog Jw Fi=true:=by kernel_rfl
theorem V4:Bo(Bu Tryz.prog)Tryz.prog Iv EJ=true:=by kernel_rfl
theorem nS:Bo(Bu Tryz.prog)Tryz.prog OL Jd=true:=by kernel_rfl
theorem Xt:Bo(Bu Tryz.prog)Tryz.prog J3 Dn=true:=by kernel_rfl
theorem K5:Bo(Bu Tryz.prog)Tryz.prog Er B4=true:=by kernel_rfl
theorem QI:Bo(Bu Tryz.prog)Tryz.prog FS CG=true:=by kernel_rfl
theorem nP:Bo(Bu Tryz.prog)Tryz.prog OI Jb=true:=by kernel_rfl
theorem nQ:Bo(Bu Tryz.prog)Tryz.prog OJ Jc=true:=by kernel_rfl
theorem dK:Bo(Bu Tryz.prog)Tryz.prog Lz EF=true:=by kernel_rfl
theorem jD:Bo(Bu Tryz.prog)Tryz.prog MA HJ=true:=by kernel_rfl
theorem dM:Bo(Bu Tryz.prog)Tryz.prog L1 D9=true:=by kernel_rfl
theorem Pn:Bo(Bu Tryz.prog)Tryz.prog Fb CP=true:=by kernel_rfl
theorem RD:Bo(Bu Tryz.prog)Tryz.prog GB DH=true:=by kernel_rfl
theorem Zb:Bo(Bu Tryz.prog)Tryz.prog Kr Ga=true:=by kernel_rfl
theorem V6:Bo(Bu Tryz.prog)Tryz.prog KU EL=true:=by kernel_rfl
theorem dI:Bo(Bu Tryz.prog)Tryz.prog Lx FF=true:=by kernel_rfl
theorem tJ:Bo(Bu Tryz.prog)Tryz.prog Qz Hm=true:=by kernel_rfl
theorem tI:Bo(Bu Tryz.prog)Tryz.prog Qy JU=true:=by kernel_rfl
theorem nK:Bo(Bu Tryz.prog)Tryz.prog OD IX=true:=by kernel_rfl
theorem nF:Bo(Bu Tryz.prog)Tryz.prog O8 IS=true:=by kernel_rfl
theorem iM:Bo(Bu Tryz.prog)Tryz.prog Mt H9=true:=by kernel_rfl
theorem iR:Bo(Bu Tryz.prog)Tryz.prog My HC=true:=by kernel_rfl
theorem K6:Bo(Bu Tryz.prog)Tryz.prog Es BK=true:=by kernel_rfl
theorem dL:Bo(Bu Tryz.prog)Tryz.prog L0 FG=true:=by kernel_rfl
theorem jE:Bo(Bu Tryz.prog)Tryz.prog MB Fx=true:=by kernel_rfl
theorem PJ:Bo(Bu Tryz.prog)Tryz.prog Fz Dk=true:=by kernel_rfl
theorem Jo:Bo(Bu Tryz.prog)Tryz.prog C9 Bj=true:=by kernel_rfl
theorem dD:Bo(Bu Tryz.prog)Tryz.prog Lt GN=true:=by kernel_rfl
theorem tK:Bo(Bu Tryz.prog)Tryz.prog Q0 IF=true:=by kernel_rfl
theorem tL:Bo(Bu Tryz.prog)Tryz.prog Q1 Ho=true:=by kernel_rfl
theorem tM:Bo(Bu Tryz.prog)Tryz.prog Q2 JW=true:=by kernel_rfl
theorem jG:Bo(Bu Tryz.prog)Tryz.prog MD HL=true:=by kernel_rfl
theorem jH:Bo(Bu Tryz.prog)Tryz.prog ME HM=true:=by kernel_rfl
theorem RC:Bo(Bu Tryz.prog)Tryz.prog GA DG=true:=by kernel_rfl
theorem V2:Bo(Bu Tryz.prog)Tryz.prog It EH=true:=by kernel_rfl
theorem YZ:Bo(Bu Tryz.prog)Tryz.prog MX Hp=true:=by kernel_rfl
theorem Za:Bo(Bu Tryz.prog)Tryz.prog MY Hq=true:=by kernel_rfl
theorem VC:Bo(Bu Tryz.prog)Tryz.prog KW FZ=true:=by kernel_rfl
theorem VB:Bo(Bu Tryz.prog)Tryz.prog KV CV=true:=by kernel_rfl
theorem dG:Bo(Bu Tryz.prog)Tryz.prog OM Ik=true:=by kernel_rfl
theorem iZ:Bo(Bu Tryz.prog)Tryz.prog M6 HF=true:=by kernel_rfl
theorem dJ:Bo(Bu Tryz.prog)Tryz.prog Ly GR=true:=by kernel_rfl
theorem K7:Bo(Bu Tryz.prog)Tryz.prog Di BL=true:=by kernel_rfl
theorem iY:Bo(Bu Tryz.prog)Tryz.prog M5 E7=true:=by kernel_rfl
theorem jF:Bo(Bu Tryz.prog)Tryz.prog MC HK=true:=by kernel_rfl
theorem VE:Bo(Bu Tryz.prog)Tryz.prog I3 EN=true:=by kernel_rfl
theorem QH:Bo(Bu Tryz.prog)Tryz.prog FQ CF=true:=by kernel_rfl
theorem Li:Bo(Bu Tryz.prog)Tryz.prog D6 BV=true:=by kernel_rfl
theorem Oh:Bo(Bu Tryz.prog)Tryz.prog EB CC=true:=by kernel_rfl
theorem K4:Bo(Bu Tryz.prog)Tryz.prog Dh BJ=true:=by kernel_rfl
theorem KM:Bo(Bu Tryz.prog)Tryz.prog Do BN=true:=by kernel_rfl
theorem V8:Bo(Bu Tryz.prog)Tryz.prog Iy CS=true:=by kernel_rfl
theorem V7:Bo(Bu Tryz.prog)Tryz.prog Ix CQ=true:=by kernel_rfl
theorem VA:Bo(Bu Tryz.prog)Tryz.prog I1 CU=true:=by kernel_rfl
theorem V9:Bo(Bu Tryz.prog)Tryz.prog Iz CT=true:=by kernel_rfl
theorem SJ:Bo(Bu Tryz.prog)Tryz.prog Hd Cs=true:=by kernel_rfl
theorem jC:Bo(Bu Tryz.prog)Tryz.prog M9 HI=true:=by kernel_rfl
theorem SI:Bo(Bu Tryz.prog)Tryz.prog Hc Cr=true:=by kernel_rfl
theorem SH:Bo(Bu Tryz.prog)Tryz.prog J0 Bm=true:=by kernel_rfl
theorem SG:Bo(Bu Tryz.prog)Tryz.prog Hb Bi=true:=by kernel_rfl
theorem Xq:Bo(Bu Tryz.prog)Tryz.prog Jz Dm=true:=by kernel_rfl
theorem Xp:Bo(Bu Tryz.prog)Tryz.prog Jy Dl=true:=by kernel_rfl
theorem Xu:Bo(Bu Tryz.prog)Tryz.prog J4 Fl=true:=by kernel_rfl
theorem VD:Bo(Bu Tryz.prog)Tryz.prog I2 EM=true:=by kernel_rfl
theorem jB:Bo(Bu Tryz.prog)Tryz.prog M8 Fw=true:=by kernel_rfl
theorem MN:Bo(Bu Tryz.prog)Tryz.prog Ei Cq=true:=by kernel_rfl
theorem KN:Bo(Bu Tryz.prog)Tryz.prog Dp BO=true:=by kernel_rfl
theorem JC:Bo(Bu Tryz.prog)Tryz.prog DN BY=true:=by kernel_rfl
theorem MK:Bo(Bu Tryz.prog)Tryz.prog Eh Cp=true:=by kernel_rfl
theorem LO:Bo(Bu Tryz.prog)Tryz.prog Hs D4=true:=by kernel_rfl
theorem GW:Bo(Bu Tryz.prog)Tryz.prog C4 Cv=true:=by kernel_rfl
theorem Xs:Bo(Bu Tryz.prog)Tryz.prog J2 Fk=true:=by kernel_rfl
theorem YW:Bo(Bu Tryz.prog)Tryz.prog Ko FX=true:=by kernel_rfl
theorem KO:Bo(Bu Tryz.prog)Tryz.prog Dq BP=true:=by kernel_rfl
theorem SE:Bo(Bu Tryz.prog)Tryz.prog GZ DV=true:=by kernel_rfl
theorem KP:Bo(Bu Tryz.prog)Tryz.prog Dr BQ=true:=by kernel_rfl
theorem Jf:Bo(Bu Tryz.prog)Tryz.prog C0 B5=true:=by kernel_rfl
theorem Xr:Bo(Bu Tryz.prog)Tryz.prog J1 Fj=true:=by kernel_rfl
theorem IC:eJ Tryz.prog Cm=some Extern.BytealgIndexByte.indexByte:=by kernel_rfl
theorem Nz:eJ Tryz.prog FE=some Extern.AbiNoEscape.same:=by kernel_rfl
theorem LP:eJ Tryz.prog D5=some Extern.BytealgCompare.compare:=by kernel_rfl
theorem ML:entB Tryz.prog Fh=true:=by kernel_rfl
theorem fits:Fits(Bu Tryz.prog)Tryz.prog tb:=by
 refine⟨by kernel_rfl,fun ao o h=>sX ao o h,fun g p h=> ?_,fun g cs h=>(by have hm:=PF h have all: ∀x∈gll,Bh x.2=0:=by simp only[gll,List.forall_mem_cons] exact⟨gm_0,gm_2,fun x h=>(by cases h)⟩ exact all _ hm),fun g fn h=> ?_⟩ ·have hm:=PF h have all: ∀x∈prl,F0 Tryz.prog tb fun g args h=>if g=x.1 then x.2 args h else none:=by simp only[prl,List.forall_mem_cons] exact⟨Xa IC,sN Nz,cR LP,sO ML zL,fun x h=>(by cases h)⟩ exact all _ hm have hm:=PF h have all: ∀x∈fnl,Bo(Bu Tryz.prog)Tryz.prog x.2 x.1=true:=by simp only[fnl,List.forall_mem_cons] exact⟨SF,iW,iO,jA,YY,nE,iN,Uf,YV,iP,Xm,dE,iU,nJ,nR,iV,dF,dC,YX,Ud,Xo,nD,nI,iQ,nL,iT,MM,JB,LN,iX,nM,dB,YU,V5,Ue,V3,dH,nH,nG,iS,nN,nO,Xn,V4,nS,Xt,K5,QI,nP,nQ,dK,jD,dM,Pn,RD,Zb,V6,dI,tJ,tI,nK,nF,iM,iR,K6,dL,jE,PJ,Jo,dD,tK,tL,tM,jG,jH,RC,V2,YZ,Za,VC,VB,dG,iZ,dJ,K7,iY,jF,VE,QH,Li,Oh,K4,KM,V8,V7,VA,V9,SJ,jC,SI,SH,SG,Xq,Xp,Xu,VD,jB,MN,KN,JC,MK,LO,GW,Xs,YW,KO,SE,KP,Jf,Xr,fun x h=>(by cases h)⟩ exact all _ hm
end Go.Proofs.YtobejhpigbllpaaGreatDoor.Am
end
namespace Go.Proofs.YtobejhpigbllpaaGreatDoor.Am
def XQ(P:Program):Nat→List Field→Option Nat
 |pos,[]=>some pos
 |pos,f::fs=>if Nat.beq f.offset pos then XQ P(pos+P.cellsOf f.type)fs else none
def Jn(P:Program):Nat→TypeId→Bool
 |0,_=>false
 |n+1,t=>
  match P.underlying t with
  |some .bool=>Nat.beq(P.cellsOf t)1
  |some(.int _)=>Nat.beq(P.cellsOf t)1
  |some .string=>Nat.beq(P.cellsOf t)1
  |some(.pointer e)=>Nat.beq(P.cellsOf t)1&&Nat.blt 0(P.cellsOf e)&&Jn P n e
  |some(.slice e)=>Nat.beq(P.cellsOf t)1&&Nat.blt 0(P.cellsOf e)&&Jn P n e
  |some(.struct fs)=>decide(XQ P 0 fs.toList=some(P.cellsOf t))&&fs.toList.all fun f=>Jn P n f.type
  |some(.array m e)=>Nat.beq(P.cellsOf t)(m*P.cellsOf e)&&Jn P n e
  |_=>false
def eY(T:TypeId→List AV→Prop):List Field→List AV→Prop
 |[],cs=>cs=[]
 |f::fs,cs=> ∃a b,cs=a++b∧T f.type a∧eY T fs b
def Gf(P:Program):Nat→TypeId→List AV→Prop
 |0,_,_=>False
 |n+1,t,cs=>
  match P.underlying t with
  |some .bool=> ∃b,cs=[.b b]
  |some(.int k)=> ∃x,cs=[.i k x]∧k.has x
  |some .string=> ∃l,cs=[.s l]
  |some(.pointer e)=>cs=[.nilp]∨ ∃ds,cs=[.ip ds 0]∧Gf P n e ds
  |some(.slice e)=>cs=[.nils]∨ ∃els:List(List AV),cs=[.sl(P.cellsOf e)els]∧ ∀x∈els,Gf P n e x
  |some(.struct fs)=>eY(Gf P n)fs.toList cs
  |some(.array m e)=> ∃els:List(List AV),els.length=m∧cs=els.flatten∧ ∀x∈els,Gf P n e x
  |_=>False
section
variable {P:Program}{H:Type}{enc:TypeId×Value→H}{w:World}{spare:Nat→Bool}{held:Bool}
theorem Vg{base:Nat}{a:Addr}{n:Nat}{cs:List Value}(h:w.cells? base a n=some cs):cs.length=n∧ ∀(j:Nat)(v:Value),cs[j]? =some v→w.cell?(a.add j)=some v:=by
 unfold World.cells? at h
 split at h
 ·refine⟨by rw[mapM_some_length h];simp,fun j v hj=> ?_⟩
  have hl:j<n:=by have:=AT hj;rw[mapM_some_length h]at this;simpa using this
  have:=mapM_some_get h j j(by simp[hl])
  rw[this,hj]
 ·cases h
theorem Aa7{a:Addr}{v:Value}(h:w.cell? a=some v):a.spot=none∧a.block<w.heap.size:=by
 unfold World.cell? at h
 split at h
 ·rename_i c e fr hb
  refine⟨?_,(Array.getElem?_eq_some_iff.1 hb).1⟩
  split at h
  ·cases h
  ·rename_i hs;simpa using hs
 ·cases h
theorem Th{base:Nat}{a:Addr}{n:Nat}{cs:List Value}(h:w.cells? base a n=some cs)(hn:0<n): ∃b off,a=⟨b,off,none⟩∧b<w.heap.size∧DK w b off cs∧cs.length=n:=by
 obtain⟨h1,h2⟩:=Vg h
 obtain⟨b,off,sp⟩:=a
 have h0:=h2 0 cs[0](by simp)
 have:=Aa7 h0
 simp only[Addr.add,if_true]at this
 obtain⟨rfl,hlt⟩:=this
 exact⟨b,off,rfl,hlt,fun j v hj=>by have:=h2 j v hj;rwa [Ge]at this,h1⟩
theorem oS{p:Nat→List AV→List Value→Prop}: ∀(len:Nat),(∀i,i<len→ ∃x y,p i x y)→ ∃(xs:List(List AV))(ys:List(List Value)),xs.length=len∧ys.length=len∧ ∀(i:Nat)x y,xs[i]? =some x→ys[i]? =some y→p i x y
 |0,_=>⟨[],[],rfl,rfl,fun i x y h=>by simp at h⟩
 |n+1,h=>by
  obtain⟨xs,ys,h1,h2,h3⟩:=oS n fun i hi=>h i(by omega)
  obtain⟨x,y,hp⟩:=h n(by omega)
  refine⟨xs++[x],ys++[y],by simp[h1],by simp[h2],fun i u v hu hv=> ?_⟩
  by_cases hi:i<n
  ·rw[List.getElem?_append_left(by omega)]at hu hv
   exact h3 i u v hu hv
  ·have hlt:=AT hu
   simp only[List.length_append,List.length_cons,List.length_nil]at hlt
   obtain rfl:i=n:=by omega
   rw[List.getElem?_append_right(by omega),h1]at hu
   rw[List.getElem?_append_right(by omega),h2]at hv
   simp only[Nat.sub_self,List.getElem?_cons_zero,Option.some.injEq]at hu hv
   subst hu;subst hv
   exact hp
theorem WS{C:Dw}: ∀{xs:List(List AV)}{ys:List(List Value)},xs.length=ys.length→(∀(i:Nat)x y,xs[i]? =some x→ys[i]? =some y→AY C x y)→AP C xs ys
 |[],[],_,_=>rfl
 |[],_::_,h,_=>by simp at h
 |_::_,[],h,_=>by simp at h
 |x::xs,y::ys,h,k=>⟨y,ys,rfl,k 0 x y rfl rfl,WS(by simpa using h)fun i u v hu hv=>k(i+1)u v(by simpa using hu)(by simpa using hv)⟩
theorem X5{sz:Nat}: ∀(l:List(List Value)),(∀y∈l,y.length=sz)→ ∀(j:Nat)(v:Value),l.flatten[j]? =some v→ ∃(i r:Nat)(y:List Value),j=i*sz+r∧l[i]? =some y∧y[r]? =some v
 |[],_,j,v,h=>by simp at h
 |y::l,hy,j,v,h=>by
  rw[List.flatten_cons]at h
  have hyl:=hy y List.mem_cons_self
  rcases Nat.lt_or_ge j y.length with hlt|hge
  ·rw[List.getElem?_append_left hlt]at h
   exact⟨0,j,y,by simp,rfl,h⟩
  ·rw[List.getElem?_append_right hge]at h
   obtain⟨i,r,u,h1,h2,h3⟩:=X5 l(fun z hz=>hy z(List.mem_cons_of_mem _ hz))_ _ h
   exact⟨i+1,r,u,by rw[Nat.succ_mul];omega,by simpa using h2,h3⟩
theorem pZ(φ:Nat→La)(w:World)(b:Nat): ¬(⟨φ,[],w⟩:Dw).own b:=by
 rintro⟨id,h,_⟩
 exact absurd h(Nat.not_lt_zero _)
def Reads(P:Program)(φ:Nat→La)(w:World)(n:Nat)(t:TypeId)(cs:List Value):Prop:=
 ∃as:List AV,Gf P n t as∧AY⟨φ,[],w⟩as cs∧as.all scal=true∧cs.length=P.cellsOf t
theorem Sv(φ:Nat→La)(n:Nat)(T: ∀f:Field,Jn P n f.type=true→ ∀cs:List Value,(∃fuel x,DataW.trod enc P w 0 spare held fuel f.type cs=some x)→Reads P φ w n f.type cs):
  ∀(fs:List Field)(pos tot:Nat)(cs:List Value),fs.all(fun f=>Jn P n f.type)=true→XQ P pos fs=some tot→cs.length=tot→
   (∀f∈fs,∃fuel x,DataW.trod enc P w 0 spare held fuel f.type((cs.drop f.offset).take(P.cellsOf f.type))=some x)→
   ∃as:List AV,eY(Gf P n)fs as∧AY⟨φ,[],w⟩as(cs.drop pos)∧as.all scal=true
 |[],pos,tot,cs,_,hc,hl,_=>by
  simp only[XQ,Option.some.injEq]at hc
  subst hc
  exact⟨[],rfl,by rw[List.drop_of_length_le(by omega)];rfl,rfl⟩
 |f::fs,pos,tot,cs,hp,hc,hl,hr=>by
  simp only[List.all_cons,Bool.and_eq_true]at hp
  simp only[XQ]at hc
  split at hc
  ·rename_i ho
   rw[Nat.beq_eq]at ho
   obtain⟨as,t1,r1,s1,l1⟩:=T f hp.1 _(hr f List.mem_cons_self)
   obtain⟨bs,t2,r2,s2⟩:=Sv φ n T fs _ tot cs hp.2 hc hl fun g hg=>hr g(List.mem_cons_of_mem _ hg)
   refine⟨as++bs,⟨as,bs,rfl,t1,t2⟩,?_,by simp only[List.all_append,s1,s2,Bool.and_self]⟩
   rw[ho]at r1 l1
   have hsplit:cs.drop pos=(cs.drop pos).take(P.cellsOf f.type)++cs.drop(pos+P.cellsOf f.type):=by
    rw[←List.drop_drop,List.take_append_drop]
   rw[hsplit]
   exact AY.app r1 r2
  ·cases hc
theorem Pu(φ:Nat→La): ∀(n:Nat)(t:TypeId),Jn P n t=true→ ∀(fuel:Nat)(cs:List Value)(x:DataW H×List MemPlace),DataW.trod enc P w 0 spare held fuel t cs=some x→Reads P φ w n t cs
 |0,_,h=>by simp[Jn]at h
 |n+1,t,h=>by
  intro fuel cs x hx
  simp only[Jn]at h
  cases hu:P.underlying t with
  |none=>rw[hu]at h;simp at h
  |some d=>
   rw[hu]at h
   cases fuel with
   |zero=>simp[DataW.trod]at hx
   |succ fuel=>
    cases d<;>simp only[Bool.false_eq_true]at h
    case bool=>
     rw[Nat.beq_eq]at h
     rcases cs with _|⟨v,_|⟨u,r⟩⟩
     ·simp[DataW.trod,hu]at hx
     ·cases v<;>simp[DataW.trod,hu]at hx
      rename_i b
      exact⟨[.b b],by simp only[Gf,hu];exact⟨b,rfl⟩,⟨_,_,rfl,rfl,rfl⟩,rfl,h.symm⟩
     ·cases v<;>simp[DataW.trod,hu]at hx
    case int k=>
     rw[Nat.beq_eq]at h
     rcases cs with _|⟨v,_|⟨u,r⟩⟩
     ·simp[DataW.trod,hu]at hx
     ·cases v<;>simp[DataW.trod,hu]at hx
      rename_i k' z
      obtain⟨⟨rfl,hwf⟩,_⟩:=hx
      refine⟨[.i k' z],?_,⟨_,_,rfl,rfl,rfl⟩,rfl,h.symm⟩
      simp only[Gf,hu]
      simp only[Lit.wf,Bool.and_eq_true,decide_eq_true_eq]at hwf
      exact⟨z,rfl,hwf⟩
     ·cases v<;>simp[DataW.trod,hu]at hx
    case string=>
     rw[Nat.beq_eq]at h
     rcases cs with _|⟨v,_|⟨u,r⟩⟩
     ·simp[DataW.trod,hu]at hx
     ·cases v<;>simp[DataW.trod,hu]at hx
      rename_i b
      exact⟨[.s b.data.toList],by simp only[Gf,hu];exact⟨_,rfl⟩,⟨_,_,rfl,by simp[FN],rfl⟩,rfl,h.symm⟩
     ·cases v<;>simp[DataW.trod,hu]at hx
    case pointer e=>
     simp only[Bool.and_eq_true,Nat.beq_eq,Nat.blt_eq]at h
     obtain⟨⟨h1,h2⟩,h3⟩:=h
     rcases cs with _|⟨v,_|⟨u,r⟩⟩
     ·simp[DataW.trod,hu]at hx
     ·cases v<;>try(simp[DataW.trod,hu]at hx;done)
      rename_i p
      cases p with
      |none=>exact⟨[.nilp],by simp only[Gf,hu];left;trivial,⟨_,_,rfl,rfl,rfl⟩,rfl,h1.symm⟩
      |some p=>
       simp only[DataW.trod,hu]at hx
       obtain⟨y,hy,_⟩:=Option.map_eq_some_iff.1 hx
       obtain⟨cs',hc,ht⟩:=Option.bind_eq_some_iff.1 hy
       obtain⟨b,off,rfl,hlt,hh,hl⟩:=Th hc h2
       obtain⟨as,t1,r1,s1,l1⟩:=Pu φ n e h3 fuel cs' y ht
       refine⟨[.ip as 0],by simp only[Gf,hu];exact .inr⟨as,rfl,t1⟩,⟨_,_,rfl,⟨b,off,cs',rfl,hlt,pZ φ w b,hh,s1,r1⟩,rfl⟩,rfl,h1.symm⟩
     ·cases v<;>simp[DataW.trod,hu]at hx
    case slice e=>
     simp only[Bool.and_eq_true,Nat.beq_eq,Nat.blt_eq]at h
     obtain⟨⟨h1,h2⟩,h3⟩:=h
     rcases Go.Deep.open_slice hu hx with⟨rfl,_⟩|⟨a,len,cap,m,n',D,Pl,rfl,hb,hl,hm,hmm,rfl,hel⟩
     ·exact⟨[.nils],by simp only[Gf,hu];left;trivial,⟨_,_,rfl,rfl,rfl⟩,rfl,h1.symm⟩
     ·have hlm:len≤m:=by rw[hmm];split<;>omega
      obtain⟨xs,ys,x1,y1,hp⟩:=oS(p:=fun i x y=>Gf P n e x∧AY⟨φ,[],w⟩x y∧x.all scal=true∧y.length=P.cellsOf e∧w.cells? 0(a.add(i*P.cellsOf e))(P.cellsOf e)=some y)len fun i hi=>by
       obtain⟨cs',c1,c2⟩:=hel i(by omega)
       obtain⟨as,t1,r1,s1,l1⟩:=Pu φ n e h3 n' cs' _ c2
       exact⟨as,cs',t1,r1,s1,l1,c1⟩
      have getx: ∀x∈xs,∃(i:Nat)(y:List Value),xs[i]? =some x∧ys[i]? =some y:=by
       intro x hx
       obtain⟨i,hi⟩:=List.mem_iff_getElem?.1 hx
       have:=AT hi
       exact⟨i,ys[i]'(by omega),hi,List.getElem?_eq_getElem(by omega)⟩
      have gety: ∀y∈ys,y.length=P.cellsOf e:=by
       intro y hy
       obtain⟨i,hi⟩:=List.mem_iff_getElem?.1 hy
       have:=AT hi
       exact(hp i(xs[i]'(by omega))y(List.getElem?_eq_getElem(by omega))hi).2.2.2.1
      refine⟨[.sl(P.cellsOf e)xs],?_,⟨_,_,rfl,?_,rfl⟩,rfl,h1.symm⟩
      ·simp only[Gf,hu]
       refine .inr⟨xs,rfl,fun x hx=> ?_⟩
       obtain⟨i,y,hi,hy⟩:=getx x hx
       exact(hp i x y hi hy).1
      ·by_cases h0:len=0
       ·subst h0
        exact .inr⟨List.eq_nil_of_length_eq_zero x1,a,cap,rfl⟩
       ·have hpos:0<len:=by omega
        obtain⟨y0,hy0⟩: ∃y,ys[0]? =some y:=⟨_,List.getElem?_eq_getElem(by omega)⟩
        obtain⟨x0,hx0⟩: ∃y,xs[0]? =some y:=⟨_,List.getElem?_eq_getElem(by omega)⟩
        have hc0:=(hp 0 x0 y0 hx0 hy0).2.2.2.2
        simp only[Nat.zero_mul,Addr.add,if_true]at hc0
        obtain⟨b,off,rfl,hlt,_,_⟩:=Th hc0 h2
        refine .inl⟨b,off,cap,ys,by rw[x1],by rw[x1];exact hl,hlt,pZ φ w b,?_,fun x hx=> ?_,WS(by rw[x1,y1])fun i x y hi hy=>(hp i x y hi hy).2.1⟩
        ·intro j v hj
         obtain⟨i,r,y,rfl,hy,hr⟩:=X5 ys gety j v hj
         have hi:=AT hy
         have hc:=(hp i(xs[i]'(by omega))y(List.getElem?_eq_getElem(by omega))hy).2.2.2.2
         have:=(Vg hc).2 r v hr
         rwa [Ge,Ge,Nat.add_assoc]at this
        ·obtain⟨i,y,hi,hy⟩:=getx x hx
         have:=hp i x y hi hy
         exact⟨by rw[←this.2.1.length];exact this.2.2.2.1,this.2.2.1⟩
    case struct fs=>
     simp only[Bool.and_eq_true,decide_eq_true_eq]at h
     obtain⟨h1,h2⟩:=h
     simp only[DataW.trod,hu]at hx
     split at hx
     ·rename_i hl
      obtain⟨xs,hxs,_⟩:=Option.map_eq_some_iff.1 hx
      obtain⟨as,t1,r1,s1⟩:=Sv(enc:=enc)(spare:=spare)(held:=held)φ n(fun f hf cs hh=>by obtain⟨fl,x,hh⟩:=hh;exact Pu φ n f.type hf fl cs x hh)fs.toList 0 _ cs h2 h1 hl fun f hf=>by
       obtain⟨i,hi⟩:=List.mem_iff_getElem?.1 hf
       have:=mapM_some_get hxs i f hi
       have hlen:=mapM_some_length hxs
       have hi':=AT hi
       rw[List.getElem?_eq_getElem(by omega)]at this
       exact⟨fuel,_,this⟩
      exact⟨as,by simp only[Gf,hu];exact t1,by simpa using r1,s1,hl⟩
     ·cases hx
    case array m e=>
     simp only[Bool.and_eq_true,Nat.beq_eq]at h
     obtain⟨h1,h2⟩:=h
     simp only[DataW.trod,hu]at hx
     split at hx
     ·rename_i hl
      obtain⟨xs,hxs,_⟩:=Option.map_eq_some_iff.1 hx
      have hxl:=mapM_some_length hxs
      simp only[List.length_range]at hxl
      obtain⟨els,ys,x1,y1,hp⟩:=oS(p:=fun i x y=>Gf P n e x∧AY⟨φ,[],w⟩x y∧x.all scal=true∧y=(cs.drop(i*P.cellsOf e)).take(P.cellsOf e)∧y.length=P.cellsOf e)m fun i hi=>by
       have:=mapM_some_get hxs i i(by simp[hi])
       rw[List.getElem?_eq_getElem(by omega)]at this
       obtain⟨as,t1,r1,s1,l1⟩:=Pu φ n e h2 fuel _ _ this
       exact⟨as,_,t1,r1,s1,rfl,l1⟩
      have hys: ∀k,k≤m→(ys.take k).flatten=cs.take(k*P.cellsOf e):=by
       intro k
       induction k with
       |zero=>intro _;simp
       |succ k ih=>
        intro hk
        obtain⟨y,hy⟩: ∃y,ys[k]? =some y:=⟨_,List.getElem?_eq_getElem(by omega)⟩
        have:=hp k(els[k]'(by omega))y(List.getElem?_eq_getElem(by omega))hy
        rw[List.take_add_one,hy,List.flatten_append,ih(by omega)]
        simp only[Option.toList_some,List.flatten_cons,List.flatten_nil,List.append_nil]
        rw[this.2.2.2.1,Nat.succ_mul,List.take_add]
      have hfl:ys.flatten=cs:=by
       have:=hys m(Nat.le_refl _)
       rwa [List.take_of_length_le(by omega),List.take_of_length_le(by omega)]at this
      refine⟨els.flatten,?_,?_,?_,hl⟩
      ·simp only[Gf,hu]
       refine⟨els,x1,rfl,fun x hx=> ?_⟩
       obtain⟨i,hi⟩:=List.mem_iff_getElem?.1 hx
       have:=AT hi
       exact(hp i x(ys[i]'(by omega))hi(List.getElem?_eq_getElem(by omega))).1
      ·have:=AP.flat(WS(C:=⟨φ,[],w⟩)(by rw[x1,y1])fun i x y hi hy=>(hp i x y hi hy).2.1)
       rwa [hfl]at this
      ·refine L9 fun x hx=> ?_
       obtain⟨i,hi⟩:=List.mem_iff_getElem?.1 hx
       have:=AT hi
       exact(hp i x(ys[i]'(by omega))hi(List.getElem?_eq_getElem(by omega))).2.2.1
     ·cases hx
end
end Go.Proofs.YtobejhpigbllpaaGreatDoor.Am
namespace Go.Proofs.YtobejhpigbllpaaGreatDoor.Am
section
variable {T:HT→Oper→Bool}{P:Program}{tb:CZ}
def U3(P:Program)(n:Nat)(t:TypeId)(x:AV):Prop:=if EO P t=true then∃cs,x= .agg cs∧Gf P n t cs else Gf P n t [x]
theorem eX{φ:Nat→La}{w:World}{D:Dw}(X:Lb⟨φ,[],w⟩D):Go.RowKit.Below w.heap.size w D.w:=
 ⟨X.rest.1,X.rest.2.1,X.rest.2.2,X.size,fun k hk=>(X.same k hk(pZ φ w k)).1⟩
theorem tO(φ:Nat→La)(w:World)(hg: ∀g cs,tb.gl g=some cs→g<w.heap.size∧cs.all scal=true∧ ∃vs,DK w g 0 vs∧AY⟨φ,[],w⟩cs vs):DQ tb⟨φ,[],w⟩:=
 ⟨fun id o h=>by simp at h,fun i j h=>absurd h(Nat.not_lt_zero _),fun i h=>absurd h(Nat.not_lt_zero _),fun g cs h=>by
  obtain⟨h1,h2,h3⟩:=hg g cs h
  exact⟨h1,pZ φ w g,h2,h3⟩⟩
theorem rQ{H:Type}{enc:TypeId×Value→H}{W:World}{base:Nat}{spare:Nat→Bool}{held:Bool}{n:Nat}{t:TypeId}(hp:Jn P n t=true){v:Value}{d:DataW H}{ps:List MemPlace}(hv:Value.okWide P W .any base t v)
  (h:DataW.Trod enc P W 0 spare held t v d ps)(φ:Nat→La): ∃x:AV,U3 P n t x∧FN⟨φ,[],W⟩x v:=by
 obtain⟨fuel,h⟩:=h
 obtain⟨as,t1,r1,s1,l1⟩:=Pu φ n t hp fuel _ _ h
 cases ha:EO P t with
 |true=>
  have hc: ∃cs,v= .agg cs:=by
   unfold Value.okWide at hv
   simp only[EO]at ha
   split at hv
   ·obtain⟨cs,e,_⟩:=hv;exact⟨cs,e⟩
   ·obtain⟨cs,e,_⟩:=hv;exact⟨cs,e⟩
   ·rename_i h1 h2
    split at ha
    ·rename_i fs hu;exact absurd hu(h1 fs)
    ·rename_i m e hu;exact absurd hu(h2 m e)
    ·cases ha
  obtain⟨cs,rfl⟩:=hc
  exact⟨.agg as,by simp only[U3,ha,if_true];exact⟨as,rfl,t1⟩,cs.toList,by simp,s1,by simpa [Value.cells]using r1⟩
 |false=>
  have hna: ∀cs,v≠ .agg cs:=by
   rintro cs rfl
   simp only[EO]at ha
   unfold Value.okWide at hv
   cases n with
   |zero=>simp[Jn]at hp
   |succ n=>
    simp only[Jn]at hp
    split at hp<;>rename_i hu<;>simp only[hu]at hv ha<;>first
     |(simp only[Cell.okWide,Cell.ok,hu]at hv;done)
     |(cases ha;done)
     |(cases hp;done)
  have hc:v.cells.toList=[v]:=by
   cases v<;>first
    |rfl
    |exact absurd rfl(hna _)
  rw[hc]at r1
  have hl:=r1.length
  obtain⟨x,rfl⟩: ∃x,as=[x]:=by
   match as,hl with
   |[x],_=>exact⟨x,rfl⟩
  obtain⟨u,q,e,h1,h2⟩:=r1
  simp only[List.cons.injEq]at e
  obtain⟨rfl,_⟩:=e
  exact⟨x,by simp only[U3,ha,Bool.false_eq_true,if_false];exact t1,h1⟩
def Q7(P:Program)(n:Nat):List TypeId→List AV→Prop
 |[],xs=>xs=[]
 |t::ts,xs=> ∃x r,xs=x::r∧U3 P n t x∧Q7 P n ts r
theorem Ww{H:Type}{enc:TypeId×Value→H}{W:World}{base:Nat}{spare:Nat→Bool}{held:Bool}{n:Nat}(φ:Nat→La): ∀{ts:List TypeId}{vs:List Value}{ds:List(DataW H)}{ps:List MemPlace},ts.all(Jn P n)=true→
  (∀(j:Nat)t v,ts[j]? =some t→vs[j]? =some v→Value.okWide P W .any base t v)→DataW.TrodAll enc P W 0 spare held ts vs ds ps→ ∃xs:List AV,Q7 P n ts xs∧AY⟨φ,[],W⟩xs vs∧ds.length=ts.length
 |[],[],[],_,_,_,_=>⟨[],rfl,rfl,rfl⟩
 |[],[],_::_,_,_,_,h=>h.elim
 |[],_::_,_,_,_,_,h=>by cases ‹List(DataW H)› <;>exact h.elim
 |_::_,[],_,_,_,_,h=>by cases ‹List(DataW H)› <;>exact h.elim
 |_::_,_::_,[],_,_,_,h=>h.elim
 |t::ts,v::vs,d::ds,ps,hp,hv,⟨p,q,h1,h2,_⟩=>by
  simp only[List.all_cons,Bool.and_eq_true]at hp
  obtain⟨x,t1,r1⟩:=rQ hp.1(hv 0 t v rfl rfl)h1 φ
  obtain⟨xs,t2,r2,l2⟩:=Ww φ hp.2(fun j t v ht hv'=>hv(j+1)t v(by simpa using ht)(by simpa using hv'))h2
  exact⟨x::xs,⟨x,xs,rfl,t1,t2⟩,⟨v,vs,rfl,r1,r2⟩,by simp[l2]⟩
theorem QS{H:Type}{enc:TypeId×Value→H}(hl:laidOutB P=true){W W':World}(hb:Go.RowKit.Below W.heap.size W W'): ∀{ts:List TypeId}{vs:List Value}{ds:List(DataW H)}{ps:List MemPlace},
  ts.all(fun t=>P.readableRec t&&decide(t<P.types.size))=true→DataW.TrodAll enc P W 0(fun _=>true)true ts vs ds ps→(∀x∈ps,x.block<W.heap.size)→DataW.TrodAll enc P W' 0(fun b=>decide(b<W.heap.size))true ts vs ds ps
 |[],[],[],_,_,h,_=>h
 |[],[],_::_,_,_,h,_=>h.elim
 |[],_::_,_,_,_,h,_=>by cases ‹List(DataW H)› <;>exact h.elim
 |_::_,[],_,_,_,h,_=>by cases ‹List(DataW H)› <;>exact h.elim
 |_::_,_::_,[],_,_,h,_=>h.elim
 |t::ts,v::vs,d::ds,ps,hp,⟨p,q,h1,h2,e⟩,hlt=>by
  simp only[List.all_cons,Bool.and_eq_true,decide_eq_true_eq]at hp
  subst e
  exact⟨p,q,Go.RowKit.Below.trod hl hp.1.1 hp.1.2 h1 hb fun x hx=>hlt x(List.mem_append_left _ hx),QS hl hb hp.2 h2 fun x hx=>hlt x(List.mem_append_right _ hx),rfl⟩
theorem Aa3(ft:Fits T P tb){k:FuncId}{f:Func}{bt:TypeId}{n:Nat}(hl:laidOutB P=true)(hr:f.resultTypes= #[bt])(hb:P.underlying bt=some .bool)(hp:f.params.toList.all(Jn P n)=true)
  (hrd:f.params.toList.all(fun t=>P.readableRec t&&decide(t<P.types.size))=true){H:Type}{enc:TypeId×Value→H}{s:ChangeSpec}(hs0:s.vars=[])(hs: ∀ds:List(DataW H),ds.length=f.params.size→s.fn H ds={results:=[.lit(.bool true)],args:=ds})
  {W:World}{base:Nat}{args:Array Value}{ds gs:List(DataW H)}{before:List MemPlace}(hval: ∀(j:Nat)t v,f.params[j]? =some t→args[j]? =some v→Value.okWide P W .any base t v)
  (hW:DataW.Whole enc P f.params.toList s.vars false W args.toList ds gs before)
  (hgl: ∀g cs,tb.gl g=some cs→g<W.heap.size∧cs.all scal=true∧ ∃vs,DK W g 0 vs∧AY⟨fun _=>⟨0,0,0⟩,[],W⟩cs vs)
  (law: ∀xs:List AV,Q7 P n f.params.toList xs→AY⟨fun _=>⟨0,0,0⟩,[],W⟩xs args.toList→ ∃h,Ck tb k xs []=some(.b true,h)):
  Calls P k args W fun e W'=> ∃v,e= .returned v∧s.post enc P f false true false false W args v W':=by
 have hW':=hW
 obtain⟨p,q,hA,hV,rfl,hfz,hnd⟩:=hW
 rw[hs0]at hV
 obtain⟨rfl,rfl⟩:=Go.ChangeShapes.trodVars_none hV
 obtain⟨xs,t1,r1,l1⟩:=Ww(fun _=>⟨0,0,0⟩)hp(fun j t v ht hv=>hval j t v(by simpa using ht)(by simpa using hv))hA
 obtain⟨h,hd⟩:=law xs t1 r1
 have I:DQ tb⟨fun _=>⟨0,0,0⟩,[],W⟩:=tO _ W hgl
 have hc:=uI ft(C:=⟨fun _=>⟨0,0,0⟩,[],W⟩)I r1 hd
 refine hc.mono fun e W'⟨v,D,he,X,ID,hw,hH,hv⟩=> ?_
 subst he
 subst hw
 obtain rfl:v= .bool true:=hv
 have hbl:=eX X
 have hlt: ∀x∈p,x.block<W.heap.size:=fun x hx=>hW'.lt x(by simpa using hx)
 have hfn:=hs(ds++[])(by simpa using l1)
 refine⟨_,rfl,ds,[],p++[],[],p,[],hW',?_,?_,?_,hbl.frame _,fun e=>by cases e⟩
 ·rw[hfn,hr]
  refine⟨[],[],⟨1,?_⟩,rfl,rfl⟩
  simp[DataW.trod,hb,Value.cells]
 ·rw[hfn]
  simpa using QS hl hbl hrd hA hlt
 ·rw[hs0,hfn]
  rfl
def qD{H:Type}:DataW H→Option AV
 | .lit(.int k n)=>some(.i k n)
 | .lit(.string l)=>some(.s l)
 | .lit(.bool b)=>some(.b b)
 | .iface _ _=>some(.ifc 0 .junk)
 |_=>none
def tC{α β:Type}(F:α→Option β):List α→Option(List β)
 |[]=>some []
 |x::r=>(F x).bind fun x=>(tC F r).map(x:: ·)
theorem iD{α β:Type}{F:α→Option β}: ∀{l:List α}{r:List β},tC F l=some r→l.length=r.length∧ ∀(i:Nat)x,l[i]? =some x→ ∃y,r[i]? =some y∧F x=some y
 |[],_,h=>by simp only[tC,Option.some.injEq]at h;subst h;simp
 |x::l,_,h=>by
  simp only[tC]at h
  obtain⟨y,hy,h⟩:=Option.bind_eq_some_iff.1 h
  obtain⟨r,hr,rfl⟩:=Option.map_eq_some_iff.1 h
  obtain⟨h1,h2⟩:=iD hr
  refine⟨by simp[h1],fun i z hz=> ?_⟩
  cases i with
  |zero=>simp only[List.getElem?_cons_zero,Option.some.injEq]at hz ⊢;subst hz;exact⟨y,rfl,hy⟩
  |succ i=>simp only[List.getElem?_cons_succ]at hz ⊢;exact h2 i z hz
theorem pU{C:Dw}: ∀{xs:List AV}{ys:List Value},xs.length=ys.length→(∀(i:Nat)x y,xs[i]? =some x→ys[i]? =some y→FN C x y)→AY C xs ys
 |[],[],_,_=>rfl
 |[],_::_,h,_=>by simp at h
 |_::_,[],h,_=>by simp at h
 |x::xs,y::ys,h,g=>⟨y,ys,rfl,g 0 x y rfl rfl,pU(by simpa using h)fun i x y hx hy=>g(i+1)x y(by simpa using hx)(by simpa using hy)⟩
theorem vD{H:Type}{enc:TypeId×Value→H}{W:World}{spare:Nat→Bool}{held:Bool}{C:Dw}{fuel:Nat}{t:TypeId}{v:Value}{x:DataW H}{p:List MemPlace}{a:AV}(h:DataW.trod enc P W 0 spare held fuel t [v]=some(x,p))(ha:qD x=some a):FN C a v∧scal a=true:=by
 cases fuel with
 |zero=>simp[DataW.trod]at h
 |succ fuel=>
  cases hu:P.underlying t with
  |none=>simp[DataW.trod,hu]at h
  |some d=>
   have hx:(∃k n,x= .lit(.int k n)∧a= .i k n)∨(∃l,x= .lit(.string l)∧a= .s l)∨(∃b,x= .lit(.bool b)∧a= .b b)∨ ∃n d,x= .iface n d∧a= .ifc 0 .junk:=by
    unfold qD at ha
    split at ha<;>simp only[Option.some.injEq,reduceCtorEq]at ha<;>subst ha<;>simp
   unfold DataW.trod at h
   rw[hu]at h
   rcases hx with⟨k,n,rfl,rfl⟩|⟨l,rfl,rfl⟩|⟨b,rfl,rfl⟩|⟨n,y,rfl,rfl⟩
   all_goals(split at h<;>(try split at h)<;>(try split at h)<;>simp_all [FN,scal,Option.map_eq_some_iff,Option.bind_eq_some_iff])
   obtain⟨rfl,_⟩:=h
   simp
theorem tab_rep{H:Type}{enc:TypeId×Value→H}{W:World}{spare:Nat→Bool}{held:Bool}{C:Dw}{fuel:Nat}{t e:TypeId}{m:Nat}{cs:List Value}{ds:List(DataW H)}{p:List MemPlace}{as:List AV}
  (hu:P.underlying t=some(.array m e))(hc:P.cellsOf e=1)(hct:P.cellsOf t=m)(h:DataW.trod enc P W 0 spare held fuel t cs=some(.agg ds,p))(ha:tC qD ds=some as):AY C as cs∧as.all scal=true:=by
 cases fuel with
 |zero=>simp[DataW.trod]at h
 |succ fuel=>
  simp only[DataW.trod,hu,hc,hct]at h
  split at h
  ·rename_i hl
   obtain⟨xs,hxs,h⟩:=Option.map_eq_some_iff.1 h
   simp only[Prod.mk.injEq,DataW.agg.injEq]at h
   obtain⟨rfl,_⟩:=h
   have hxl:=mapM_some_length hxs
   simp only[List.length_range]at hxl
   obtain⟨g1,g2⟩:=iD ha
   simp only[List.length_map]at g1
   have key: ∀(i:Nat)a,as[i]? =some a→ ∃v,cs[i]? =some v∧FN C a v∧scal a=true:=fun i a hi=>by
    have hi':=AT hi
    have:=mapM_some_get hxs i i(by rw[List.getElem?_range(by omega)])
    have hd:(cs.drop(i*1)).take 1=[cs[i]'(by omega)]:=by
     rw[Nat.mul_one,List.drop_eq_getElem_cons(by omega)];rfl
    rw[hd,List.getElem?_eq_getElem(by omega)]at this
    obtain⟨y,hy,hf⟩:=g2 i(xs[i]'(by omega)).1(by rw[List.getElem?_map,List.getElem?_eq_getElem(by omega)];rfl)
    rw[hi]at hy
    cases hy
    exact⟨_,List.getElem?_eq_getElem(by omega),vD this hf⟩
   refine⟨pU(by omega)fun i x y hx hy=> ?_,?_⟩
   ·obtain⟨v,h1,h2,_⟩:=key i x hx
    rw[hy]at h1;cases h1;exact h2
   ·rw[List.all_eq_true]
    intro x hx
    obtain⟨i,hi⟩:=List.mem_iff_getElem?.1 hx
    obtain⟨v,_,_,h⟩:=key i x hi
    exact h
  ·cases h
theorem iL{W:World}{n:String}{d:DataW Unit}: ∀{l:List(String×DataW Unit)}{ps:List MemPlace},DataW.LaidVars P W l ps→(n,d)∈l→ ∃g t cs fuel p,P.globalNamed n=some g∧(P.globals[g]?).map(·.type)=some t∧W.var? P n=some cs∧
  DataW.trod(fun _=>())P W 0(fun _=>true)false fuel t cs.toList=some(d,p)
 |[],_,_,hm=>by cases hm
 |(n',d')::r,ps,⟨g,t,cs,fuel,p,q,h1,h2,h3,h4,h5,_⟩,hm=>by
  rcases List.mem_cons.1 hm with e|hm
  ·simp only[Prod.mk.injEq]at e
   obtain⟨rfl,rfl⟩:=e
   exact⟨g,t,cs,fuel,p,h1,h2,h3,h4⟩
  ·exact iL h5 hm
theorem X2{W:World}{l:List(String×DataW Unit)}(hL:laidMet P l W){n:String}{d:DataW Unit}{ds:List(DataW Unit)}{as:List AV}{g:Nat}{t e:TypeId}{m:Nat}(hm:(n,d)∈l)(hg:P.globalNamed n=some g)(ht:(P.globals[g]?).map(·.type)=some t)
  (hu:P.underlying t=some(.array m e))(hc:P.cellsOf e=1)(hct:P.cellsOf t=m)(hd:d= .agg ds)(ha:tC qD ds=some as):
  g<W.heap.size∧as.all scal=true∧ ∃vs,DK W g 0 vs∧AY⟨fun _=>⟨0,0,0⟩,[],W⟩as vs:=by
 obtain⟨ps,hv,_,_⟩:=hL
 obtain⟨g',t',cs,fuel,p,h1,h2,h3,h4⟩:=iL hv hm
 rw[hg]at h1;cases h1
 rw[ht]at h2;cases h2
 subst hd
 obtain⟨r1,r2⟩:=tab_rep(C:=⟨fun _=>⟨0,0,0⟩,[],W⟩)hu hc hct h4 ha
 simp only[World.var?,hg,Option.bind_some]at h3
 have hlt:g<W.heap.size:=by
  rcases Nat.lt_or_ge g W.heap.size with h|h
  ·exact h
  ·rw[Array.getElem?_eq_none h]at h3;cases h3
 refine⟨hlt,r2,cs.toList,fun j v hj=> ?_,r1⟩
 split at h3
 ·rename_i cs' ty fr hh
  cases h3
  simp only[World.cell?,hh,Nat.zero_add]
  simpa using hj
 ·cases h3
end
end Go.Proofs.YtobejhpigbllpaaGreatDoor.Am
namespace Go.Proofs.YtobejhpigbllpaaGreatDoor.Am
def Ds(P:Program)(t:TypeId)(u:T)(I:u.α→Prop):Prop:= ∀n cs,Gf P n t cs→ ∃x,u.R(fun _=>False) []cs x∧I x
def Yn(P:Program)(fs:List Field)(u:T)(I:u.α→Prop):Prop:= ∀n cs,eY(Gf P n)fs cs→ ∃x,u.R(fun _=>False) []cs x∧I x
section
variable {P:Program}{t e:TypeId}
theorem Ds.weak{u:T}{I J:u.α→Prop}(h:Ds P t u I)(w: ∀x,I x→J x):Ds P t u J:=fun n cs k=>by
 obtain⟨x,r,i⟩:=h n cs k
 exact⟨x,r,w x i⟩
theorem Ds.int{k:IntKind}(hu:P.underlying t=some(.int k)):Ds P t(T.int k)fun x=>k.has x:=by
 intro n cs h
 cases n with
 |zero=>exact h.elim
 |succ n=>
  simp only[Gf,hu]at h
  obtain⟨x,rfl,hx⟩:=h
  exact⟨x,rfl,hx⟩
theorem Ym{k:IntKind}{m:Nat}{α:Type}{c:α→Nat}{z:α}{hs hm}(ofN: ∀i,i<m→ ∃x,c x=i)(hk: ∀x,k.has x→0≤x∧x<m)(hu:P.underlying t=some(.int k)):Ds P t(Tx α(fun x=> .i k(c x))z hs hm)fun _=>True:=by
 intro n cs h
 cases n with
 |zero=>exact h.elim
 |succ n=>
  simp only[Gf,hu]at h
  obtain⟨x,rfl,hx⟩:=h
  have:=hk x hx
  obtain⟨y,hy⟩:=ofN x.toNat(by omega)
  refine⟨y,?_,trivial⟩
  show [AV.i k x]=[AV.i k(c y)]
  rw[hy];congr 2;omega
theorem zC{x:Int}:(IntKind.u8.has x→0≤x∧x<(256:Nat))∧(IntKind.u16.has x→0≤x∧x<(65536:Nat))∧(IntKind.u32.has x→0≤x∧x<(4294967296:Nat))∧(IntKind.u64.has x→0≤x∧x<(18446744073709551616:Nat)):=by
 simp only[IntKind.has,IntKind.min,IntKind.max,IntKind.signed,IntKind.bits]
 refine⟨fun h=> ?_,fun h=> ?_,fun h=> ?_,fun h=> ?_⟩<;>simp at h<;>omega
theorem Ds.u8(hu:P.underlying t=some(.int .u8)):Ds P t T.u8 fun _=>True:=Ym(c:=UInt8.toNat)(m:=256)(fun i hi=>⟨UInt8.ofNat i,by rw[UInt8.toNat_ofNat'];exact Nat.mod_eq_of_lt hi⟩)(fun _=>zC.1)hu
theorem Ds.u32(hu:P.underlying t=some(.int .u32)):Ds P t T.u32 fun _=>True:=Ym(c:=UInt32.toNat)(m:=4294967296)(fun i hi=>⟨UInt32.ofNat i,by rw[UInt32.toNat_ofNat'];exact Nat.mod_eq_of_lt hi⟩)(fun _=>zC.2.2.1)hu
theorem Ds.u64(hu:P.underlying t=some(.int .u64)):Ds P t T.u64 fun _=>True:=Ym(c:=UInt64.toNat)(m:=18446744073709551616)(fun i hi=>⟨UInt64.ofNat i,by rw[UInt64.toNat_ofNat'];exact Nat.mod_eq_of_lt hi⟩)(fun _=>zC.2.2.2)hu
theorem T5{u:T}{I:u.α→Prop}(h:Ds P e u I){n:Nat}: ∀{els:List(List AV)},(∀x∈els,Gf P n e x)→ ∃xs:List u.α,CJ u(fun _=>False) []els xs∧ ∀x∈xs,I x
 |[],_=>⟨[],trivial,fun _ h=>by cases h⟩
 |c::els,hx=>by
  obtain⟨xs,h1,h2⟩:=T5 h fun y hy=>hx y(List.mem_cons_of_mem _ hy)
  obtain⟨x,h3,h4⟩:=h n c(hx c List.mem_cons_self)
  exact⟨x::xs,⟨h3,h1⟩,fun y hy=>by
   rcases List.mem_cons.1 hy with rfl|hy
   ·exact h4
   ·exact h2 y hy⟩
theorem Ds.sl{u:T}{I:u.α→Prop}(h:Ds P e u I)(hu:P.underlying t=some(.slice e))(hsz:P.cellsOf e=u.sz):Ds P t(T.sl u)fun g=> ∀x∈g.l,I x:=by
 intro n cs k
 cases n with
 |zero=>exact k.elim
 |succ n=>
  simp only[Gf,hu]at k
  rcases k with rfl|⟨els,rfl,hels⟩
  ·exact⟨GS.nil,⟨_,rfl,rfl⟩,fun x hx=>by cases hx⟩
  ·obtain⟨xs,h1,h2⟩:=T5 h hels
   exact⟨GS.mk xs,⟨_,rfl,trivial,els,by simp[Ez,hsz],h1⟩,h2⟩
theorem Tw{m:Nat}{u:T}{I:u.α→Prop}(h:Ds P e u I)(hu:P.underlying t=some(.array m e)):Ds P t(Ay m u)fun g=> ∀x∈g.l,I x:=by
 intro n cs k
 cases n with
 |zero=>exact k.elim
 |succ n=>
  simp only[Gf,hu]at k
  obtain⟨els,hl,rfl,hels⟩:=k
  obtain⟨xs,h1,h2⟩:=T5 h hels
  exact⟨⟨xs,by rw[←h1.length,hl]⟩,⟨els,rfl,h1⟩,h2⟩
theorem Yn.one{f:Field}{u:T}{I:u.α→Prop}(h:Ds P f.type u I):Yn P [f]u I:=by
 rintro n cs⟨a,b,rfl,h1,h2⟩
 obtain rfl:b=[]:=h2
 rw[List.append_nil]
 exact h n a h1
theorem Yn.cons{f:Field}{fs:List Field}{u w:T}{I:u.α→Prop}{J:w.α→Prop}(h:Ds P f.type u I)(g:Yn P fs w J):Yn P(f::fs)(CH u w)fun p=>I p.1∧J p.2:=by
 rintro n cs⟨a,b,rfl,h1,h2⟩
 obtain⟨x,r1,i1⟩:=h n a h1
 obtain⟨y,r2,i2⟩:=g n b h2
 exact⟨(x,y),⟨a,b,rfl,r1,r2⟩,i1,i2⟩
theorem Ds.st{fs:Array Field}{u:T}{I:u.α→Prop}{β:Type}{f:β→u.α}{g:u.α→β}{hfg: ∀y,f(g y)=y}(h:Yn P fs.toList u I)(hu:P.underlying t=some(.struct fs)):Ds P t(Pg u β f g hfg)fun(y:β)=>I(f y):=by
 intro n cs k
 cases n with
 |zero=>exact k.elim
 |succ n=>
  simp only[Gf,hu]at k
  obtain⟨x,r,i⟩:=h n cs k
  refine⟨g x,?_,?_⟩
  ·show u.R _ _ _(f(g x))
   rw[hfg];exact r
  ·show I(f(g x))
   rw[hfg];exact i
end
theorem pI{P:Program}{n:Nat}{t:TypeId}{u:T}{I:u.α→Prop}{v:AV}(ha:EO P t=u.agg)(h:Ds P t u I)(k:U3 P n t v): ∃x,u.V(fun _=>False) []v x∧I x:=by
 unfold U3 at k
 cases hu:u.agg with
 |true=>
  rw[ha,hu,if_pos rfl]at k
  obtain⟨cs,rfl,k⟩:=k
  obtain⟨x,r,i⟩:=h n cs k
  exact⟨x, .inl⟨hu,cs,rfl,r⟩,i⟩
 |false=>
  rw[ha,hu,if_neg(by simp)]at k
  obtain⟨x,r,i⟩:=h n [v]k
  exact⟨x, .inr⟨hu,r⟩,i⟩
def Tys(P:Program):List TypeId→(us:List T)→(BU us→Prop)→Prop
 |[],[],_=>True
 |[t],[u],I=>EO P t=u.agg∧Ds P t u I
 |t::t'::ts,u::u'::us,I=> ∃(J:u.α→Prop)(K:BU(u'::us)→Prop),(EO P t=u.agg∧Ds P t u J)∧Tys P(t'::ts)(u'::us)K∧ ∀x y,J x→K y→I(x,y)
 |_,_,_=>False
theorem Tys.one{P:Program}{t:TypeId}{u:T}{I:u.α→Prop}(ha:EO P t=u.agg)(h:Ds P t u I):Tys P [t] [u]I:=⟨ha,h⟩
theorem fO{P:Program}{n:Nat}: ∀{ts:List TypeId}{us:List T}{I:BU us→Prop}{xs:List AV},(us=[]→ ∀x,I x)→Tys P ts us I→Q7 P n ts xs→ ∃a:BU us,Vj(fun _=>False) []us xs a∧I a
 |[],[],_,xs,h0,_,h=>⟨(),h,h0 rfl()⟩
 |[t],[u],I,xs,_,hT,⟨x,r,e,h,k⟩=>by
  obtain rfl:r=[]:=k
  obtain⟨a,h1,h2⟩:=pI hT.1 hT.2 h
  exact⟨a,⟨x,e,h1⟩,h2⟩
 |t::t'::ts,u::u'::us,I,xs,_,⟨J,K,hT,hR,hI⟩,⟨x,r,e,h,k⟩=>by
  obtain⟨a,h1,h2⟩:=pI hT.1 hT.2 h
  obtain⟨b,h3,h4⟩:=fO(fun e=>by cases e)hR k
  exact⟨(a,b),⟨x,r,e,h1,h3⟩,hI a b h2 h4⟩
 |[],_::_,_,_,_,h,_=>h.elim
 |_::_,[],_,_,_,h,_=>by cases ‹List TypeId› <;>exact h.elim
 |[_],_::_::_,_,_,_,h,_=>h.elim
 |_::_::_,[_],_,_,_,h,_=>h.elim
theorem AaO{P:Program}{tb:CZ}{g n:Nat}{ts:List TypeId}{As:List T}{F:BU As→Option Bool}{I:BU As→Prop}(S:AH tb g As [T.b]F)(hp:tb.prim g=none)(h0:As=[]→ ∀x,I x)(hT:Tys P ts As I)(hF: ∀a,I a→F a=some true)
  {xs:List AV}(h:Q7 P n ts xs): ∃h,Ck tb g xs []=some(.b true,h):=by
 obtain⟨a,ha,hi⟩:=fO h0 hT h
 obtain⟨v,u,hc,_,vs,hv,w,hw,hb⟩:=(S(fun _=>False) []xs a(fun _ h=>h.elim)(by simp[CE])ha true(hF a hi)).call
 simp only[B3,hp]at hc
 obtain rfl:w= .b true:=Gg.1 hb
 subst hw
 exact⟨u,by rw[hc,hv];rfl⟩
end Go.Proofs.YtobejhpigbllpaaGreatDoor.Am
namespace Go.Proofs.YtobejhpigbllpaaGreatDoor.Am
theorem Zw{x:Int}(h0: -9223372036854775808≤x)(h1:x<9223372036854775808):IntKind.i64.wrap x=x:=by
 simp only[IntKind.wrap,IntKind.bits,IntKind.signed];simp;omega
theorem B1{m:Nat}(h:m<9223372036854775808):IntKind.i64.wrap(m:Int)=m:=Zw(by omega)(by omega)
section
variable {α:Type}
theorem Z4{l:List α}{n:Nat}(h:n≤l.length):Vk l(some(n:Int))none=some(l.drop n):=by
 simp[Vk,T4,h]
theorem vI{l:List α}{m n:Nat}(h:m≤n)(h':n≤l.length):Vk l(some(m:Int))(some(n:Int))=some((l.take n).drop m):=by
 simp[Vk,T4,h,h']
theorem vL{l:List α}{n:Nat}(h:n≤l.length):slG(.mk l)(some(n:Int))none=some(.mk(l.drop n)):=by
 simp[slG,T4,GS.l,h,TT]
theorem slG_to{l:List α}{n:Nat}(h:n≤l.length):slG(.mk l)none(some(n:Int))=some(.mk(l.take n)):=by
 simp[slG,T4,GS.l,h,TT]
theorem BF{l:List α}{n:Nat}:Fv l(n:Int)=l[n]? :=by simp[Fv]
theorem Co{n k:Nat}(h:n<k):DU k(n:Int)=some n:=by simp[DU,h]
theorem Kt{bytes:Nat}{g:GS α}{x:α}(h:(g.l.length+1)*bytes≤Bf):Wn bytes g [x]=some(.mk(g.l++[x])):=by
 unfold Wn
 rw[if_pos(by simpa using h)]
 cases g<;>rfl
@[simp] theorem Fc {l : List α} : (GS.mk l).l = l := rfl
@[simp] theorem GS.l_nil : (GS.nil : GS α).l = [] := rfl
theorem N0{σ β:Type}{F:σ→Option(σ⊕β)}(m:σ→Nat)(I:σ→Prop)(Q:β→Prop)
  (step: ∀s,I s→(∃s',F s=some(.inl s')∧I s'∧m s'<m s)∨ ∃b,F s=some(.inr b)∧Q b): ∀{s},I s→ ∃b,iter F s=some b∧Q b:=by
 have key: ∀n s,m s<n→I s→ ∃b,iter F s=some b∧Q b:=by
  intro n
  induction n with
  |zero=>intro s h;omega
  |succ n ih=>
   intro s h hI
   rcases step s hI with⟨s',e,hI',hm⟩|⟨b,e,hq⟩
   ·rw[Qs e];exact ih s'(by omega)hI'
   ·exact⟨b,Uh e,hq⟩
 intro s hI
 exact key _ s(Nat.lt_succ_self _)hI
theorem Cg{σ β γ:Type}{F:σ→Option(σ⊕β)}{K:β→Option γ}{r:Option γ}{s:σ}(m:σ→Nat)(I:σ→Prop)(Q:β→Prop)(h:I s)
  (step: ∀s,I s→(∃s',F s=some(.inl s')∧I s'∧m s'<m s)∨ ∃b,F s=some(.inr b)∧Q b)(fin: ∀b,Q b→K b=r):(iter F s).bind K=r:=by
 obtain⟨b,e,hb⟩:=N0 m I Q step h
 rw[e];exact fin b hb
theorem jJ{σ β:Type}{F:σ→Option(σ⊕β)}{b:β}(m:σ→Nat)(I:σ→Prop)
  (step: ∀s,I s→(∃s',F s=some(.inl s')∧I s'∧m s'<m s)∨F s=some(.inr b)){s:σ}(h:I s):iter F s=some b:=by
 obtain⟨b',e,rfl⟩:=N0 m I(fun b'=>b'=b)(fun s hs=>(step s hs).imp_right fun e=>⟨b,e,rfl⟩)h
 exact e
end
def F2(c:UInt8):AN→List AN
 |[]=>[[]]
 |x::l=>if x=c then []::F2 c l else match F2 c l with
  |[]=>[[x]]
  |h::t=>(x::h)::t
theorem rV{c:UInt8}: ∀l,F2 c l≠[]
 |[]=>by simp[F2]
 |x::l=>by
  simp only[F2]
  split
  ·simp
  ·split<;>simp
theorem U9{c:UInt8}: ∀{p:AN},(∀x∈p,x≠c)→F2 c p=[p]
 |[],_=>rfl
 |x::p,h=>by
  simp only[F2,if_neg(h x List.mem_cons_self),U9 fun y hy=>h y(List.mem_cons_of_mem _ hy)]
theorem W1{c:UInt8}{q:AN}: ∀{p:AN},(∀x∈p,x≠c)→F2 c(p++c::q)=p::F2 c q
 |[],_=>by simp[F2]
 |x::p,h=>by
  simp only[List.cons_append,F2,if_neg(h x List.mem_cons_self),W1 fun y hy=>h y(List.mem_cons_of_mem _ hy)]
theorem W0{c:UInt8}: ∀l:AN,(F2 c l).length=l.countP(fun x=>x==c)+1
 |[]=>rfl
 |x::l=>by
  have ih:=W0(c:=c)l
  simp only[F2]
  by_cases hx:x=c
  ·rw[if_pos hx,List.length_cons,ih,List.countP_cons_of_pos(by simp[hx])]
  ·rw[if_neg hx,List.countP_cons_of_neg(by simp[hx])]
   split
   ·rename_i e;exact absurd e(rV l)
   ·rename_i e;rw[e]at ih;simpa using ih
theorem jZ(l:AN)(c:UInt8):((∀x∈l,x≠c)∧N5 l c= -1)∨ ∃p q,l=p++c::q∧(∀x∈p,x≠c)∧N5 l c=(p.length:Int):=by
 unfold N5
 cases e:l.findIdx?(fun x=>x==c)with
 |none=>
  left
  rw[List.findIdx?_eq_none_iff]at e
  exact⟨fun x hx=>by simpa using e x hx,rfl⟩
 |some i=>
  right
  rw[List.findIdx?_eq_some_iff_getElem]at e
  obtain⟨h,h1,h2⟩:=e
  have hc:l[i]=c:=by simpa using h1
  refine⟨l.take i,l.drop(i+1),?_,?_,?_⟩
  ·rw[←hc,←List.drop_eq_getElem_cons h,List.take_append_drop]
  ·intro x hx
   obtain⟨j,hj,rfl⟩:=List.mem_iff_getElem.1 hx
   rw[List.length_take]at hj
   have:=h2 j(by omega)
   rw[List.getElem_take]
   simpa using this
  ·rw[List.length_take];simp only[Int.ofNat_inj];omega
end Go.Proofs.YtobejhpigbllpaaGreatDoor.Am
