/-
  Structures, as Lean's and as types of the machine's. Printed by mkwalk.py.
  The functions: their numbers, their codes. Printed by mkwalk.py.
  strings.Builder's grow, at a builder without a buffer. Printed by mkwalk.py.
  Functions of Go's library: the kit's contracts, at this program. Printed by mkpu.py.
  Each code is the program's. Printed by mkwalk.py.
  What a law is given, as the machine's values: a reading is a value of the type, all of it memory that nobody writes.
  A law's row, out of what the machine comes to.
  From the model's values to typed ones; a law that answers true.
  Plain laws: numbers, pieces of lists, a text split at a byte.
-/
import Derived.Test.YtobejhpigbllpaaGreatDoorProg
import Derived.Lib.MakeNoZero
import Derived.Lib.Builder
import Derived.Lib.Walk
import Derived.WalkKit
import Derived.Laws.Externs
import Derived.Laws.IdiomCopy
import Derived.KernelRfl
import Derived.Shelf.Pu.ParseUintPublic10
import Derived.Shelf.Strings.Search2
import Derived.ProofKit
import Derived.Deep.Slices
import Derived.DataReads
import Derived.Carry
import Derived.Test.YtobejhpigbllpaaGreatDoorX2
section
set_option linter.unusedVariables false
set_option maxRecDepth 100000
set_option maxHeartbeats 4000000
namespace Go.Proofs.YtobejhpigbllpaaGreatDoor.Am
structure Be where
 V:Int
 B:(Ar UInt8 16)
 deriving DecidableEq
def A7:T:=Xo (Hx (T.int .i64) (T.arr 16 T.u8)) Be (fun x=>(x.V,x.B)) (fun p=>⟨p.1,p.2⟩) (fun _=>rfl)
def E3:AZ A7 (T.int .i64) 0:=I3 (KJ (At _))
def DZ:AZ A7 (T.arr 16 T.u8) 1:=I3 (Ey (At _))
def Ou:=iT (g:=fun p=>⟨p.1,p.2⟩) (hfg:=fun _=>rfl) (Zt (F1.int .i64) (F1.arr 16 F1.u8)) (fun(x y:Be)=>inferInstance) (f:=fun x=>(x.V,x.B)) (by rintro⟨⟩ ⟨⟩ h;cases h;rfl)
structure AF where
 A:Be
 Port:Int
 deriving DecidableEq
def Al:T:=Xo (Hx A7 (T.int .i64)) AF (fun x=>(x.A,x.Port)) (fun p=>⟨p.1,p.2⟩) (fun _=>rfl)
def Dj:AZ Al A7 0:=I3 (KJ (At _))
def Dn:AZ Al (T.int .i64) 17:=I3 (Ey (At _))
def HV:=iT (g:=fun p=>⟨p.1,p.2⟩) (hfg:=fun _=>rfl) (Zt Ou (F1.int .i64)) (fun(x y:AF)=>inferInstance) (f:=fun x=>(x.A,x.Port)) (by rintro⟨⟩ ⟨⟩ h;cases h;rfl)
structure Ao where
 Kind:Int
 Bytes:(GS UInt8)
 To:AF
 Key:(Ar UInt8 32)
 Why:Int
 deriving DecidableEq
def Ae:T:=Xo (Hx (T.int .i64) (Hx (T.sl T.u8) (Hx Al (Hx (T.arr 32 T.u8) (T.int .i64))))) Ao (fun x=>(x.Kind,x.Bytes,x.To,x.Key,x.Why)) (fun p=>⟨p.1,p.2.1,p.2.2.1,p.2.2.2.1,p.2.2.2.2⟩) (fun _=>rfl)
def AN:AZ Ae (T.int .i64) 0:=I3 (KJ (At _))
def AI:AZ Ae (T.sl T.u8) 1:=I3 (Ey (KJ (At _)))
def BB:AZ Ae Al 2:=I3 (Ey (Ey (KJ (At _))))
def Cf:AZ Ae (T.arr 32 T.u8) 20:=I3 (Ey (Ey (Ey (KJ (At _)))))
def BN:AZ Ae (T.int .i64) 52:=I3 (Ey (Ey (Ey (Ey (At _)))))
structure A5 where
 g_:(Ar UInt16 8)
 n_:Int
 gap_:Int
 deriving DecidableEq
def A9:T:=Xo (Hx (T.arr 8 T.u16) (Hx (T.int .i64) (T.int .i64))) A5 (fun x=>(x.g_,x.n_,x.gap_)) (fun p=>⟨p.1,p.2.1,p.2.2⟩) (fun _=>rfl)
def CT:AZ A9 (T.arr 8 T.u16) 0:=I3 (KJ (At _))
def AQ:AZ A9 (T.int .i64) 8:=I3 (Ey (KJ (At _)))
def CI:AZ A9 (T.int .i64) 9:=I3 (Ey (Ey (At _)))
abbrev Fu:AR:=[48,48,48,49,48,50,48,51,48,52,48,53,48,54,48,55,48,56,48,57,49,48,49,49,49,50,49,51,49,52,49,53,49,54,49,55,49,56,49,57,50,48,50,49,50,50,50,51,50,52,50,53,50,54,50,55,50,56,50,57,51,48,51,49,51,50,51,51,51,52,51,53,51,54,51,55,51,56,51,57,52,48,52,49,52,50,52,51,52,52,52,53,52,54,52,55,52,56,52,57,53,48,53,49,53,50,53,51,53,52,53,53,53,54,53,55,53,56,53,57,54,48,54,49,54,50,54,51,54,52,54,53,54,54,54,55,54,56,54,57,55,48,55,49,55,50,55,51,55,52,55,53,55,54,55,55,55,56,55,57,56,48,56,49,56,50,56,51,56,52,56,53,56,54,56,55,56,56,56,57,57,48,57,49,57,50,57,51,57,52,57,53,57,54,57,55,57,56,57,57]
abbrev str_1:AR:=[0,1,2,2,3,3,3,3,4,4,4,4,4,4,4,4,5,5,5,5,5,5,5,5,5,5,5,5,5,5,5,5,6,6,6,6,6,6,6,6,6,6,6,6,6,6,6,6,6,6,6,6,6,6,6,6,6,6,6,6,6,6,6,6,7,7,7,7,7,7,7,7,7,7,7,7,7,7,7,7,7,7,7,7,7,7,7,7,7,7,7,7,7,7,7,7,7,7,7,7,7,7,7,7,7,7,7,7,7,7,7,7,7,7,7,7,7,7,7,7,7,7,7,7,7,7,7,7,8,8,8,8,8,8,8,8,8,8,8,8,8,8,8,8,8,8,8,8,8,8,8,8,8,8,8,8,8,8,8,8,8,8,8,8,8,8,8,8,8,8,8,8,8,8,8,8,8,8,8,8,8,8,8,8,8,8,8,8,8,8,8,8,8,8,8,8,8,8,8,8,8,8,8,8,8,8,8,8,8,8,8,8,8,8,8,8,8,8,8,8,8,8,8,8,8,8,8,8,8,8,8,8,8,8,8,8,8,8,8,8,8,8,8,8,8,8,8,8,8,8,8,8,8,8,8,8]
end Go.Proofs.YtobejhpigbllpaaGreatDoor.Am
end
section
set_option linter.unusedVariables false
set_option maxRecDepth 100000
set_option maxHeartbeats 4000000
namespace Go.Proofs.YtobejhpigbllpaaGreatDoor.Am
def EF:Nat:=3
def IQ:Nat:=9
def FI:Nat:=10
def Ia:Nat:=11
def FW:Nat:=12
def Fl:Nat:=13
def Gu:Nat:=14
def IL:Nat:=15
def HI:Nat:=16
def Hm:Nat:=21
def GK:Nat:=30
def DB:Nat:=31
def Ee:Nat:=32
def Fm:Nat:=33
def Hl:Nat:=34
def FX:Nat:=35
def Ib:Nat:=36
def EY:Nat:=37
def HJ:Nat:=38
def Ef:Nat:=39
def IP:Nat:=40
def Gz:Nat:=45
def GL:Nat:=55
def Ez:Nat:=56
def IK:Nat:=57
def HZ:Nat:=58
def Jk:Nat:=59
def Dk:Nat:=60
def B5:Nat:=61
def Cv:Nat:=62
def EV:Nat:=63
def ET:Nat:=64
def HK:Nat:=65
def DV:Nat:=75
def AS:Nat:=84
def EI:Nat:=85
def AW:Nat:=86
def F4:Nat:=87
def AU:Nat:=88
def Ct:Nat:=89
def Fg:Nat:=90
def C4:Nat:=91
def EG:Nat:=92
def C3:Nat:=93
def BP:Nat:=94
def IR:Nat:=95
def Ci:Nat:=96
def Ff:Nat:=97
def Ch:Nat:=98
def Da:Nat:=99
def Eg:Nat:=100
def Dv:Nat:=101
def Eh:Nat:=102
def GJ:Nat:=103
def Du:Nat:=104
def BE:Nat:=105
def F0:Nat:=106
def Db:Nat:=107
def IM:Nat:=108
def IN:Nat:=109
def EZ:Nat:=120
def Ea:Nat:=122
def BZ:Nat:=132
def EJ:Nat:=133
def Hp:Nat:=134
def GM:Nat:=135
def Ev:Nat:=136
def Hq:Nat:=137
def JT:Nat:=138
def Ds:Nat:=139
def EH:Nat:=140
def FH:Nat:=141
def FZ:Nat:=142
def BG:Nat:=144
def Hn:Nat:=145
def IB:Nat:=146
def HL:Nat:=147
def GN:Nat:=156
def Fe:Nat:=158
def E7:Nat:=164
def Ic:Nat:=165
def Ho:Nat:=166
def DC:Nat:=167
def Gv:Nat:=168
def Gy:Nat:=169
def IS:Nat:=170
def FY:Nat:=171
def Ca:Nat:=172
def C5:Nat:=175
def EU:Nat:=176
def C7:Nat:=187
def F7:Nat:=205
def Fh:Nat:=206
def FJ:Nat:=207
def BH:Nat:=208
def Cw:Nat:=209
def DU:Nat:=210
def Dw:Nat:=211
def C8:Nat:=212
def Ck:Nat:=213
def Cp:Nat:=214
def JU:Nat:=215
def F6:Nat:=232
def Gx:Nat:=233
def B0:Nat:=234
def Dc:Nat:=235
def DT:Nat:=236
def D6:Nat:=237
def C0:Nat:=238
def Cl:Nat:=239
def Eu:Nat:=240
def Cm:Nat:=241
def F5:Nat:=249
def Gw:Nat:=250
noncomputable def Ie:D7:=⟨false,1,58,[.tmp 2],(.seq (rg false [oz 1 (.box 32 53 (.t 0)),oz 2 (.mv (.k (.b false)))]) (.seq (.seq (rg false [oz 8 (.ld true 53 (.t 1)),oz 9 (.call IQ [(.t 8)])]) (.cond (.t 9) (.seq (rg false [oz 10 (.call FI []),oz 2 (.mv (.t 10))]) .ret) .skip)) (.seq (rg false [oz 11 (.ld true 53 (.t 1)),oz 12 (.call Ia [(.t 11)]),oz 3 (.mv (.t 12))]) (.seq (rg false [oz 14 (.ld true 53 (.t 1)),oz 15 (.call FW [(.t 14)]),oz 13 (.mv (.t 15)),oz 16 (.ext (.t 13) 0),oz 17 (.ext (.t 13) 1),oz 4 (.mv (.t 16)),oz 5 (.mv (.t 17))]) (.seq (.seq (rg false [oz 18 (.ld true 53 (.t 1)),oz 19 (.call Fl [(.t 18)]),oz 20 (.mv (.t 3)),oz 21 (.eq true (.one (.b)) (.t 19) (.t 20))]) (.cond (.t 21) (.seq (rg false [oz 2 (.mv (.k (.b false)))]) .ret) .skip)) (.seq (.seq (rg false [oz 22 (.mv (.t 3)),oz 23 (.un .not (.t 22))]) (.cond (.t 23) (.seq (rg false [oz 24 (.mv (.t 4)),oz 25 (.bin .eql (.t 24) (.k (.s []))),oz 26 (.mv (.t 25)),⟨some 27,some (26,true), .mv (.t 5)⟩,⟨some 28,some (26,true), .bin .eql (.t 27) (.k (.i .i64 1))⟩,oz 29 (.pick (.t 26) (.t 28) (.k (.b false))),oz 30 (.mv (.t 29)),⟨some 31,some (30,true), .call FI []⟩,oz 32 (.pick (.t 30) (.t 31) (.k (.b false))),oz 2 (.mv (.t 32))]) .ret) .skip)) (.seq (rg false [oz 34 (.mv (.t 4)),oz 35 (.call Gu [(.t 34)]),oz 33 (.mv (.t 35)),oz 36 (.ext (.t 33) 0),oz 37 (.ext (.t 33) 1),oz 6 (.alloc 32 Ae.zc),on (.st 53 (.t 6) (.t 36)),oz 7 (.mv (.t 37))]) (.seq (rg false [oz 38 (.mv (.t 4)),oz 39 (.ld true 53 (.t 1)),oz 40 (.call IL [(.t 39)]),oz 41 (.bin .eql (.t 38) (.t 40)),oz 42 (.mv (.t 41)),⟨some 43,some (42,true), .mv (.t 5)⟩,⟨some 44,some (42,true), .bin .eql (.t 43) (.k (.i .i64 0))⟩,oz 45 (.pick (.t 42) (.t 44) (.k (.b false))),oz 46 (.mv (.t 45)),⟨some 47,some (46,true), .ld true 53 (.t 6)⟩,⟨some 48,some (46,true), .ld true 53 (.t 1)⟩,⟨some 49,some (46,true), .call HI [(.t 47),(.t 48)]⟩,oz 50 (.pick (.t 46) (.t 49) (.k (.b false))),oz 51 (.mv (.t 50)),⟨some 52,some (51,true), .mv (.t 7)⟩,⟨some 53,some (51,true), .bin .eql (.t 52) (.k (.i .i64 0))⟩,oz 54 (.pick (.t 51) (.t 53) (.k (.b false))),oz 55 (.mv (.t 54)),⟨some 56,some (55,true), .call FI []⟩,oz 57 (.pick (.t 55) (.t 56) (.k (.b false))),oz 2 (.mv (.t 57))])
 .ret))))))))⟩
noncomputable def Oh:D7:=⟨false,1,7,[.tmp 2],(.seq (rg false [oz 1 (.box 32 53 (.t 0)),oz 2 (.mv (.k (.b false)))]) (.seq (rg false [oz 3 (.fa 1 (.t 1)),oz 4 (.ld false 1 (.t 3)),oz 5 (.len (.t 4)),oz 6 (.bin .gtr (.t 5) (.k (.i .i64 9000))),oz 2 (.mv (.t 6))]) .ret))⟩
noncomputable def M5:D7:=⟨false,0,14,[.tmp 0],(.seq (rg false [oz 0 (.mv (.k (.b false)))]) (.seq (rg false [oz 4 (.bld Ae.zc [(0,1,(.k (.i .i64 5))),(52,1,(.k (.i .i64 7)))]),oz 5 (.call FW [(.t 4)]),oz 3 (.mv (.t 5)),oz 6 (.ext (.t 3) 0),oz 7 (.ext (.t 3) 1),oz 1 (.mv (.t 6)),oz 2 (.mv (.t 7))]) (.seq (rg false [oz 8 (.mv (.t 2)),oz 9 (.bin .eql (.t 8) (.k (.i .i64 0))),oz 10 (.mv (.t 9)),⟨some 11,some (10,true), .mv (.t 1)⟩,⟨some 12,some (10,true), .bin .eql (.t 11) (.k (.s [100,114,111,112,32,55]))⟩,oz 13 (.pick (.t 10) (.t 12) (.k (.b false))),oz 0 (.mv (.t 13))]) .ret)))⟩
noncomputable def Mx:D7:=⟨false,1,73,[.tmp 2],(.seq (rg false [oz 1 (.box 32 53 (.t 0)),oz 2 (.mv (.k (.b false)))]) (.seq (rg false [oz 4 (.fa 0 (.t 1)),oz 5 (.ld false 1 (.t 4)),oz 6 (.bld Ae.zc [(0,1,(.t 5))]),oz 3 (.alloc 32 Ae.zc),on (.st 53 (.t 3) (.t 6))]) (.seq (.seq (rg false [oz 7 (.fa 0 (.t 1)),oz 8 (.ld false 1 (.t 7))]) (.blk 0 (.seq (.seq (rg false [oz 10 (.bin .eql (.t 8) (.k (.i .i64 1))),oz 9 (.mv (.t 10))]) (.cond (.t 9) .skip (rg false [oz 11 (.bin .eql (.t 8) (.k (.i .i64 4))),oz 9 (.mv (.t 11))]))) (.cond (.t 9) (rg false [oz 12 (.fa 1 (.t 1)),oz 13 (.ld false 1 (.t 12)),oz 14 (.fa 1 (.t 3)),on (.st 1 (.t 14) (.t 13))]) (.seq (rg false [oz 16 (.bin .eql (.t 8) (.k (.i .i64 2))),oz 15 (.mv (.t 16))]) (.cond (.t 15) (.seq (rg false [oz 17 (.fa 1 (.t 1)),oz 18 (.ld false 1 (.t 17)),oz 19 (.fa 1 (.t 3)),on (.st 1 (.t 19) (.t 18))]) (.seq (rg false [oz 20 (.fa 2 (.t 1)),oz 21 (.ld true 18 (.t 20)),oz 22 (.fa 2 (.t 3)),on (.st 18 (.t 22) (.t 21))]) (rg false [oz 23 (.fa 20 (.t 1)),oz 24 (.ld true 32 (.t 23)),oz 25 (.fa 20 (.t 3)),on (.st 32 (.t 25) (.t 24))]))) (.seq (rg false [oz 27 (.bin .eql (.t 8) (.k (.i .i64 3))),oz 26 (.mv (.t 27))]) (.cond (.t 26) (.seq (rg false [oz 28 (.fa 1 (.t 1)),oz 29 (.ld false 1 (.t 28)),oz 30 (.fa 1 (.t 3)),on (.st 1 (.t 30) (.t 29))]) (rg false [oz 31 (.fa 20 (.t 1)),oz 32 (.ld true 32 (.t 31)),oz 33 (.fa 20 (.t 3)),on (.st 32 (.t 33) (.t 32))])) (.seq (rg false [oz 35 (.bin .eql (.t 8) (.k (.i .i64 5))),oz 34 (.mv (.t 35))]) (.cond (.t 34)
    (.seq (rg false [oz 36 (.fa 52 (.t 1)),oz 37 (.ld false 1 (.t 36)),oz 38 (.fa 52 (.t 3)),on (.st 1 (.t 38) (.t 37))]) (.seq (rg false [oz 39 (.fa 52 (.t 1)),oz 40 (.ld false 1 (.t 39)),oz 41 (.bin .lss (.t 40) (.k (.i .i64 1))),oz 42 (.mv (.t 41)),⟨some 43,some (42,false), .fa 52 (.t 1)⟩,⟨some 44,some (42,false), .ld false 1 (.t 43)⟩,⟨some 45,some (42,false), .bin .gtr (.t 44) (.k (.i .i64 20))⟩,oz 46 (.pick (.t 42) (.k (.b true)) (.t 45))]) (.cond (.t 46) (.seq (rg false [oz 2 (.mv (.k (.b false)))]) .ret) .skip))) (.seq (rg false [oz 48 (.bin .eql (.t 8) (.k (.i .i64 6))),oz 47 (.mv (.t 48))]) (.cond (.t 47) (.seq (rg false [oz 49 (.fa 1 (.t 1)),oz 50 (.ld false 1 (.t 49)),oz 51 (.fa 1 (.t 3)),on (.st 1 (.t 51) (.t 50))]) (rg false [oz 52 (.fa 2 (.t 1)),oz 53 (.ld true 18 (.t 52)),oz 54 (.fa 2 (.t 3)),on (.st 18 (.t 54) (.t 53))])) (.seq (rg false [oz 2 (.mv (.k (.b false)))]) .ret))))))))))))) (.seq (rg false [oz 55 (.ld true 53 (.t 3)),oz 56 (.ld true 53 (.t 1)),oz 57 (.call HI [(.t 55),(.t 56)]),oz 58 (.mv (.t 57)),⟨some 59,some (58,true), .fa 0 (.t 1)⟩,⟨some 60,some (58,true), .ld false 1 (.t 59)⟩,⟨some 61,some (58,true), .bin .neq (.t 60) (.k (.i .i64 2))⟩,⟨some 62,some (58,true), .mv (.t 61)⟩,⟨some 63,some (62,true), .fa 0 (.t 1)⟩,⟨some 64,some (62,true), .ld false 1 (.t 63)⟩,⟨some 65,some (62,true), .bin .neq (.t 64) (.k (.i .i64 6))⟩,⟨some 66,some (58,true), .pick (.t 62) (.t 65) (.k (.b false))⟩,⟨some 67,some (58,true), .mv (.t 66)⟩,⟨some 68,some (67,false), .fa 2 (.t 1)⟩,⟨some 69,some (67,false), .ld true 18 (.t 68)⟩,⟨some 70,some (67,false), .call GK [(.t 69)]⟩,⟨some 71,some (58,true), .pick (.t 67) (.k (.b true)) (.t 70)⟩,oz 72 (.pick (.t 58) (.t 71) (.k (.b false))),oz 2 (.mv (.t 72))])
 .ret))))⟩
noncomputable def US:AC:=(.seq (rg false [oz 25 (.bin .lss (.t 24) (.t 23))]) (.seq (.cond (.t 25) .skip (.exit 0)) (.seq (.blk 1 (.seq (rg false [oz 26 (.ias 3 (.t 22) (.t 24)),oz 27 (.ld true 3 (.t 26)),oz 8 (.alloc 72 (zz [(3, .nilf)])),on (.st 3 (.t 8) (.t 27))]) (rg false [oz 28 (.mv (.t 6)),oz 29 (.fa 0 (.t 8)),oz 30 (.ld false 1 (.t 29)),oz 31 (.ld true 53 (.t 1)),oz 32 (.callv (.t 30) [(.t 31)]),oz 33 (.bll 1 (List.replicate 1 Ak.zc) [(0,(.t 32))]),oz 34 (.app 9 1 16 (.t 28) (.t 33)),oz 6 (.mv (.t 34))]))) (rg false [oz 35 (.bin .add (.t 24) (.k (.i .i64 1))),oz 24 (.mv (.t 35))]))))
noncomputable def Lo:D7:=⟨false,1,38,[.tmp 2, .tmp 3],(.seq (rg false [oz 1 (.box 32 53 (.t 0)),oz 2 (.mv (.k (.s []))),oz 3 (.mv (.k (.i .i64 0)))]) (.seq (.seq (rg false [oz 9 (.ld true 53 (.t 1)),oz 10 (.call Fl [(.t 9)]),oz 11 (.un .not (.t 10))]) (.cond (.t 11) (.seq (rg false [oz 2 (.mv (.k (.s []))),oz 3 (.mv (.k (.i .i64 1)))]) .ret) .skip)) (.seq (rg false [oz 13 (.fa 0 (.t 1)),oz 14 (.ld false 1 (.t 13)),oz 15 (.call DB [(.t 14)]),oz 12 (.mv (.t 15)),oz 16 (.ext (.t 12) 0),oz 17 (.ext (.t 12) 1),oz 4 (.alloc 66 (zz [(1, .s []),(1, .nils)])),on (.st 2 (.t 4) (.t 16)),oz 5 (.mv (.t 17))]) (.seq (rg false [oz 18 (.fa 0 (.t 4)),oz 19 (.ld false 1 (.t 18)),oz 20 (.bls 9 1 (List.replicate 1 Ak.zc) [(0,(.t 19))]),oz 6 (.mv (.t 20))]) (.seq (.seq (rg false [oz 21 (.fa 1 (.t 4)),oz 22 (.ld false 1 (.t 21)),oz 23 (.len (.t 22)),oz 24 (.mv (.k (.i .i64 0)))]) (.blk 0 (.loop [1,6,22,23,24] US))) (.seq (rg false [oz 36 (.mv (.t 6)),oz 37 (.call Ee [(.t 36),(.k (.s [32]))]),oz 2 (.mv (.t 37)),oz 3 (.mv (.k (.i .i64 0)))]) .ret))))))⟩
noncomputable def Tz:AC:=(.seq (rg false [oz 17 (.bin .lss (.t 16) (.t 15))]) (.seq (.cond (.t 17) .skip (.exit 0)) (.seq (.blk 1 (.seq (rg false [oz 18 (.ias 3 (.t 14) (.t 16)),oz 19 (.ld true 3 (.t 18)),oz 6 (.alloc 72 (zz [(3, .nilf)])),on (.st 3 (.t 6) (.t 19))]) (rg false [oz 20 (.fa 2 (.t 6)),oz 21 (.ld false 1 (.t 20)),oz 22 (.callv (.t 21) [(.t 1)]),oz 23 (.mv (.t 22)),⟨some 24,some (23,true), .mv (.t 4)⟩,oz 25 (.pick (.t 23) (.t 24) (.k (.b false))),oz 4 (.mv (.t 25))]))) (rg false [oz 26 (.bin .add (.t 16) (.k (.i .i64 1))),oz 16 (.mv (.t 26))]))))
noncomputable def Km:D7:=⟨false,1,35,[.tmp 2],(.seq (rg false [oz 1 (.box 32 53 (.t 0)),oz 2 (.mv (.k (.b false)))]) (.seq (rg false [oz 8 (.fa 0 (.t 1)),oz 9 (.ld false 1 (.t 8)),oz 10 (.call DB [(.t 9)]),oz 7 (.mv (.t 10)),oz 11 (.ext (.t 7) 0),oz 12 (.ext (.t 7) 1),oz 3 (.alloc 66 (zz [(1, .s []),(1, .nils)])),on (.st 2 (.t 3) (.t 11)),oz 4 (.mv (.t 12))]) (.seq (.seq (rg false [oz 13 (.fa 1 (.t 3)),oz 14 (.ld false 1 (.t 13)),oz 15 (.len (.t 14)),oz 16 (.mv (.k (.i .i64 0)))]) (.blk 0 (.loop [1,4,14,15,16] Tz))) (.seq (rg false [oz 27 (.mv (.t 4)),oz 28 (.mv (.t 27)),⟨some 29,some (28,true), .ld true 53 (.t 1)⟩,⟨some 30,some (28,true), .fa 0 (.t 1)⟩,⟨some 31,some (28,true), .ld false 1 (.t 30)⟩,⟨some 32,some (28,true), .bld Ae.zc [(0,1,(.t 31))]⟩,⟨some 33,some (28,true), .call Hm [(.t 29),(.t 32)]⟩,oz 34 (.pick (.t 28) (.t 33) (.k (.b false))),oz 2 (.mv (.t 34))]) .ret))))⟩
noncomputable def T0:AC:=(.seq (rg false [oz 42 (.bin .lss (.t 41) (.t 40))]) (.seq (.cond (.t 42) .skip (.exit 1)) (.seq (.blk 2 (.seq (rg false [oz 43 (.mv (.t 41)),oz 44 (.ias 3 (.t 39) (.t 41)),oz 45 (.ld true 3 (.t 44)),oz 9 (.alloc 72 (zz [(3, .nilf)])),oz 8 (.mv (.t 43)),on (.st 3 (.t 9) (.t 45))]) (.seq (.regd [oz 46 (.fa 1 (.t 9)),oz 47 (.ld false 1 (.t 46)),oz 48 (.mv (.t 4)),oz 49 (.mv (.t 8)),oz 50 (.bin .add (.t 49) (.k (.i .i64 1))),oz 51 (.ias 1 (.t 48) (.t 50)),oz 52 (.ld false 1 (.t 51)),oz 53 (.callv (.t 47) [(.t 5),(.t 52)]),oz 10 (.mv (.t 53))] [some (0,0),some (0,0),some (0,0),some (0,0),some (0,0),some (0,0),some (0,0),none,some (1,1)]) (.seq (rg false [oz 54 (.mv (.t 10)),oz 55 (.bin .neq (.t 54) (.k (.i .i64 0)))]) (.cond (.t 55) (.seq (rg false [oz 56 (.bld Ae.zc []),oz 57 (.mv (.t 10)),on (.st 53 (.t 2) (.t 56)),oz 3 (.mv (.t 57))]) .ret) .skip))))) (rg false [oz 58 (.bin .add (.t 41) (.k (.i .i64 1))),oz 41 (.mv (.t 58))]))))
noncomputable def Kn:D7:=⟨false,1,60,[.cell true 53 2, .tmp 3],(.seq (rg false [oz 2 (.alloc 32 Ae.zc),oz 3 (.mv (.k (.i .i64 0)))]) (.seq (rg false [oz 11 (.mv (.t 0)),oz 12 (.ixs (.k (.s [32])) (.k (.i .i64 0))),oz 13 (.call Fm [(.t 11),(.t 12)]),oz 4 (.mv (.t 13))]) (.seq (rg false [oz 14 (.mv (.t 4)),oz 15 (.ias 1 (.t 14) (.k (.i .i64 0))),oz 16 (.ld false 1 (.t 15)),oz 17 (.call Hl [(.t 16)]),oz 18 (.bld Ae.zc [(0,1,(.t 17))]),oz 5 (.alloc 32 Ae.zc),on (.st 53 (.t 5) (.t 18))]) (.seq (rg false [oz 20 (.fa 0 (.t 5)),oz 21 (.ld false 1 (.t 20)),oz 22 (.call DB [(.t 21)]),oz 19 (.mv (.t 22)),oz 23 (.ext (.t 19) 0),oz 24 (.ext (.t 19) 1),oz 6 (.alloc 66 (zz [(1, .s []),(1, .nils)])),on (.st 2 (.t 6) (.t 23)),oz 7 (.mv (.t 24))]) (.seq (.blk 0 (.seq (rg false [oz 26 (.mv (.t 7)),oz 27 (.un .not (.t 26)),oz 25 (.mv (.t 27))]) (.cond (.t 25) (.seq (rg false [oz 28 (.bld Ae.zc []),on (.st 53 (.t 2) (.t 28)),oz 3 (.mv (.k (.i .i64 12)))]) .ret) (.seq (rg false [oz 30 (.mv (.t 4)),oz 31 (.len (.t 30)),oz 32 (.bin .sub (.t 31) (.k (.i .i64 1))),oz 33 (.fa 1 (.t 6)),oz 34 (.ld false 1 (.t 33)),oz 35 (.len (.t 34)),oz 36 (.bin .neq (.t 32) (.t 35)),oz 29 (.mv (.t 36))]) (.cond (.t 29) (.seq (rg false [oz 37 (.bld Ae.zc []),on (.st 53 (.t 2) (.t 37)),oz 3 (.mv (.k (.i .i64 5)))]) .ret) .skip))))) (.seq (.seq (rg false [oz 38 (.fa 1 (.t 6)),oz 39 (.ld false 1 (.t 38)),oz 40 (.len (.t 39)),oz 41 (.mv (.k (.i .i64 0)))]) (.blk 1 (.loop [2,4,5,39,40,41] T0))) (.seq (rg false [oz 59 (.ld true 53 (.t 5)),on (.st 53 (.t 2) (.t 59)),oz 3 (.mv (.k (.i .i64 0)))])
 .ret)))))))⟩
noncomputable def NY:D7:=⟨false,1,61,[.tmp 2],(.seq (rg false [oz 1 (.box 32 53 (.t 0)),oz 2 (.mv (.k (.s [])))]) (.seq (rg false [oz 4 (.fa 20 (.t 1)),oz 5 (.ld true 32 (.t 4)),oz 6 (.call Ib [(.t 5)]),oz 7 (.call FX [(.t 6)]),oz 3 (.mv (.t 7))]) (.seq (.seq (rg false [oz 8 (.fa 0 (.t 1)),oz 9 (.ld false 1 (.t 8))]) (.blk 0 (.seq (rg false [oz 11 (.bin .eql (.t 9) (.k (.i .i64 1))),oz 10 (.mv (.t 11))]) (.cond (.t 10) (.seq (rg false [oz 12 (.fa 1 (.t 1)),oz 13 (.ld false 1 (.t 12)),oz 14 (.call EY [(.t 13)]),oz 15 (.bin .add (.k (.s [114,101,112,108,121,32])) (.t 14)),oz 2 (.mv (.t 15))]) .ret) (.seq (rg false [oz 17 (.bin .eql (.t 9) (.k (.i .i64 2))),oz 16 (.mv (.t 17))]) (.cond (.t 16) (.seq (rg true [oz 18 (.fa 2 (.t 1)),oz 19 (.ld true 18 (.t 18)),oz 20 (.call HJ [(.t 19)]),oz 21 (.bin .add (.k (.s [115,101,110,100,32])) (.t 20)),oz 22 (.bin .add (.t 21) (.k (.s [32]))),oz 23 (.mv (.t 3)),oz 24 (.bin .add (.t 22) (.t 23)),oz 25 (.bin .add (.t 24) (.k (.s [32]))),oz 26 (.fa 1 (.t 1)),oz 27 (.ld false 1 (.t 26)),oz 28 (.call EY [(.t 27)]),oz 29 (.bin .add (.t 25) (.t 28)),oz 2 (.mv (.t 29))]) .ret) (.seq (rg false [oz 31 (.bin .eql (.t 9) (.k (.i .i64 3))),oz 30 (.mv (.t 31))]) (.cond (.t 30) (.seq (rg false [oz 32 (.mv (.t 3)),oz 33 (.bin .add (.k (.s [100,101,108,105,118,101,114,32])) (.t 32)),oz 34 (.bin .add (.t 33) (.k (.s [32]))),oz 35 (.fa 1 (.t 1)),oz 36 (.ld false 1 (.t 35)),oz 37 (.call EY [(.t 36)]),oz 38 (.bin .add (.t 34) (.t 37)),oz 2 (.mv (.t 38))]) .ret) (.seq (rg false [oz 40 (.bin .eql (.t 9) (.k (.i .i64 4))),oz 39 (.mv (.t 40))])
   (.cond (.t 39) (.seq (rg false [oz 41 (.fa 1 (.t 1)),oz 42 (.ld false 1 (.t 41)),oz 43 (.call EY [(.t 42)]),oz 44 (.bin .add (.k (.s [114,101,102,117,115,101,32])) (.t 43)),oz 2 (.mv (.t 44))]) .ret) (.seq (rg false [oz 46 (.bin .eql (.t 9) (.k (.i .i64 5))),oz 45 (.mv (.t 46))]) (.cond (.t 45) (.seq (rg false [oz 47 (.fa 52 (.t 1)),oz 48 (.ld false 1 (.t 47)),oz 49 (.cvi .u64 (.t 48)),oz 50 (.call Ef [(.t 49)]),oz 51 (.bin .add (.k (.s [100,114,111,112,32])) (.t 50)),oz 2 (.mv (.t 51))]) .ret) .skip)))))))))))) (.seq (rg true [oz 52 (.fa 2 (.t 1)),oz 53 (.ld true 18 (.t 52)),oz 54 (.call HJ [(.t 53)]),oz 55 (.bin .add (.k (.s [112,97,115,115,32])) (.t 54)),oz 56 (.bin .add (.t 55) (.k (.s [32]))),oz 57 (.fa 1 (.t 1)),oz 58 (.ld false 1 (.t 57)),oz 59 (.call EY [(.t 58)]),oz 60 (.bin .add (.t 56) (.t 59)),oz 2 (.mv (.t 60))]) .ret))))⟩
noncomputable def NZ:D7:=⟨false,2,38,[.tmp 4],(.seq (rg false [oz 2 (.box 32 53 (.t 0)),oz 3 (.box 32 53 (.t 1)),oz 4 (.mv (.k (.b false)))]) (.seq (rg false [oz 5 (.fa 0 (.t 2)),oz 6 (.ld false 1 (.t 5)),oz 7 (.fa 0 (.t 3)),oz 8 (.ld false 1 (.t 7)),oz 9 (.bin .eql (.t 6) (.t 8)),oz 10 (.mv (.t 9)),⟨some 11,some (10,true), .fa 1 (.t 2)⟩,⟨some 12,some (10,true), .ld false 1 (.t 11)⟩,⟨some 13,some (10,true), .fa 1 (.t 3)⟩,⟨some 14,some (10,true), .ld false 1 (.t 13)⟩,⟨some 15,some (10,true), .call IP [(.t 12),(.t 14)]⟩,oz 16 (.pick (.t 10) (.t 15) (.k (.b false))),oz 17 (.mv (.t 16)),⟨some 18,some (17,true), .fa 2 (.t 2)⟩,⟨some 19,some (17,true), .ld true 18 (.t 18)⟩,⟨some 20,some (17,true), .fa 2 (.t 3)⟩,⟨some 21,some (17,true), .ld true 18 (.t 20)⟩,⟨some 22,some (17,true), .eq false (.agg (kk [(1, .i .i64),(16, .i .u8),(1, .i .i64)])) (.t 19) (.t 21)⟩,oz 23 (.pick (.t 17) (.t 22) (.k (.b false))),oz 24 (.mv (.t 23)),⟨some 25,some (24,true), .fa 20 (.t 2)⟩,⟨some 26,some (24,true), .ld true 32 (.t 25)⟩,⟨some 27,some (24,true), .fa 20 (.t 3)⟩,⟨some 28,some (24,true), .ld true 32 (.t 27)⟩,⟨some 29,some (24,true), .eq false (.agg (kk [(32, .i .u8)])) (.t 26) (.t 28)⟩,oz 30 (.pick (.t 24) (.t 29) (.k (.b false))),oz 31 (.mv (.t 30)),⟨some 32,some (31,true), .fa 52 (.t 2)⟩,⟨some 33,some (31,true), .ld false 1 (.t 32)⟩,⟨some 34,some (31,true), .fa 52 (.t 3)⟩,⟨some 35,some (31,true), .ld false 1 (.t 34)⟩,⟨some 36,some (31,true), .bin .eql (.t 33) (.t 35)⟩,oz 37 (.pick (.t 31) (.t 36) (.k (.b false))),oz 4 (.mv (.t 37))])
 .ret))⟩
noncomputable def Lp:D7:=⟨false,2,38,[.tmp 4],(.seq (rg false [oz 2 (.box 32 53 (.t 0)),oz 3 (.box 32 53 (.t 1)),oz 4 (.mv (.k (.b false)))]) (.seq (rg false [oz 5 (.fa 0 (.t 2)),oz 6 (.ld false 1 (.t 5)),oz 7 (.fa 0 (.t 3)),oz 8 (.ld false 1 (.t 7)),oz 9 (.bin .eql (.t 6) (.t 8)),oz 10 (.mv (.t 9)),⟨some 11,some (10,true), .fa 1 (.t 2)⟩,⟨some 12,some (10,true), .ld false 1 (.t 11)⟩,⟨some 13,some (10,true), .fa 1 (.t 3)⟩,⟨some 14,some (10,true), .ld false 1 (.t 13)⟩,⟨some 15,some (10,true), .call Gz [(.t 12),(.t 14)]⟩,oz 16 (.pick (.t 10) (.t 15) (.k (.b false))),oz 17 (.mv (.t 16)),⟨some 18,some (17,true), .fa 2 (.t 2)⟩,⟨some 19,some (17,true), .ld true 18 (.t 18)⟩,⟨some 20,some (17,true), .fa 2 (.t 3)⟩,⟨some 21,some (17,true), .ld true 18 (.t 20)⟩,⟨some 22,some (17,true), .eq false (.agg (kk [(1, .i .i64),(16, .i .u8),(1, .i .i64)])) (.t 19) (.t 21)⟩,oz 23 (.pick (.t 17) (.t 22) (.k (.b false))),oz 24 (.mv (.t 23)),⟨some 25,some (24,true), .fa 20 (.t 2)⟩,⟨some 26,some (24,true), .ld true 32 (.t 25)⟩,⟨some 27,some (24,true), .fa 20 (.t 3)⟩,⟨some 28,some (24,true), .ld true 32 (.t 27)⟩,⟨some 29,some (24,true), .eq false (.agg (kk [(32, .i .u8)])) (.t 26) (.t 28)⟩,oz 30 (.pick (.t 24) (.t 29) (.k (.b false))),oz 31 (.mv (.t 30)),⟨some 32,some (31,true), .fa 52 (.t 2)⟩,⟨some 33,some (31,true), .ld false 1 (.t 32)⟩,⟨some 34,some (31,true), .fa 52 (.t 3)⟩,⟨some 35,some (31,true), .ld false 1 (.t 34)⟩,⟨some 36,some (31,true), .bin .eql (.t 33) (.t 35)⟩,oz 37 (.pick (.t 31) (.t 36) (.k (.b false))),oz 4 (.mv (.t 37))])
 .ret))⟩
noncomputable def My:D7:=⟨false,1,16,[.tmp 2],(.seq (rg false [oz 1 (.box 27 18 (.t 0)),oz 2 (.mv (.k (.b false)))]) (.seq (rg false [oz 3 (.fa 0 (.t 1)),oz 4 (.ld true 17 (.t 3)),oz 5 (.call GL [(.t 4)]),oz 6 (.mv (.t 5)),⟨some 7,some (6,true), .fa 17 (.t 1)⟩,⟨some 8,some (6,true), .ld false 1 (.t 7)⟩,⟨some 9,some (6,true), .bin .geq (.t 8) (.k (.i .i64 1))⟩,oz 10 (.pick (.t 6) (.t 9) (.k (.b false))),oz 11 (.mv (.t 10)),⟨some 12,some (11,true), .fa 17 (.t 1)⟩,⟨some 13,some (11,true), .ld false 1 (.t 12)⟩,⟨some 14,some (11,true), .bin .leq (.t 13) (.k (.i .i64 65535))⟩,oz 15 (.pick (.t 11) (.t 14) (.k (.b false))),oz 2 (.mv (.t 15))]) .ret))⟩
noncomputable def La:D7:=⟨true,1,40,[.cell true 2 2, .tmp 3],(.seq (rg false [oz 2 (.alloc 66 (zz [(1, .s []),(1, .nils)])),oz 3 (.mv (.k (.b false)))]) (.seq (.seq (rg false [oz 4 (.mv (.t 0))]) (.blk 0 (.seq (rg false [oz 6 (.bin .eql (.t 4) (.k (.i .i64 1))),oz 5 (.mv (.t 6))]) (.cond (.t 5) (.seq (rg false [oz 7 (.call Ez []),oz 8 (.bls 72 3 (List.replicate 1 (zz [(3, .nilf)])) [(0,(.t 7))]),oz 9 (.bld (zz [(1, .s []),(1, .nils)]) [(0,1,(.k (.s [114,101,112,108,121]))),(1,1,(.t 8))]),on (.st 2 (.t 2) (.t 9)),oz 3 (.mv (.k (.b true)))]) .ret) (.seq (rg false [oz 11 (.bin .eql (.t 4) (.k (.i .i64 2))),oz 10 (.mv (.t 11))]) (.cond (.t 10) (.seq (rg false [oz 12 (.call IK []),oz 13 (.call HZ []),oz 14 (.call Ez []),oz 15 (.bls 72 3 (List.replicate 3 (zz [(3, .nilf)])) [(0,(.t 12)),(1,(.t 13)),(2,(.t 14))]),oz 16 (.bld (zz [(1, .s []),(1, .nils)]) [(0,1,(.k (.s [115,101,110,100]))),(1,1,(.t 15))]),on (.st 2 (.t 2) (.t 16)),oz 3 (.mv (.k (.b true)))]) .ret) (.seq (rg false [oz 18 (.bin .eql (.t 4) (.k (.i .i64 3))),oz 17 (.mv (.t 18))]) (.cond (.t 17) (.seq (rg false [oz 19 (.call HZ []),oz 20 (.call Ez []),oz 21 (.bls 72 3 (List.replicate 2 (zz [(3, .nilf)])) [(0,(.t 19)),(1,(.t 20))]),oz 22 (.bld (zz [(1, .s []),(1, .nils)]) [(0,1,(.k (.s [100,101,108,105,118,101,114]))),(1,1,(.t 21))]),on (.st 2 (.t 2) (.t 22)),oz 3 (.mv (.k (.b true)))]) .ret) (.seq (rg false [oz 24 (.bin .eql (.t 4) (.k (.i .i64 4))),oz 23 (.mv (.t 24))]) (.cond (.t 23) (.seq (rg false [oz 25 (.call Ez []),oz 26 (.bls 72 3 (List.replicate 1 (zz [(3, .nilf)])) [(0,(.t 25))]),oz 27 (.bld (zz [(1, .s []),(1, .nils)]) [(0,1,(.k (.s [114,101,102,117,115,101]))),(1,1,(.t 26))]),on (.st 2 (.t 2) (.t 27)),oz 3 (.mv (.k (.b true)))])
    .ret) (.seq (rg false [oz 29 (.bin .eql (.t 4) (.k (.i .i64 5))),oz 28 (.mv (.t 29))]) (.cond (.t 28) (.seq (rg false [oz 30 (.call Jk []),oz 31 (.bls 72 3 (List.replicate 1 (zz [(3, .nilf)])) [(0,(.t 30))]),oz 32 (.bld (zz [(1, .s []),(1, .nils)]) [(0,1,(.k (.s [100,114,111,112]))),(1,1,(.t 31))]),on (.st 2 (.t 2) (.t 32)),oz 3 (.mv (.k (.b true)))]) .ret) (.seq (rg false [oz 34 (.bin .eql (.t 4) (.k (.i .i64 6))),oz 33 (.mv (.t 34))]) (.cond (.t 33) (.seq (rg false [oz 35 (.call IK []),oz 36 (.call Ez []),oz 37 (.bls 72 3 (List.replicate 2 (zz [(3, .nilf)])) [(0,(.t 35)),(1,(.t 36))]),oz 38 (.bld (zz [(1, .s []),(1, .nils)]) [(0,1,(.k (.s [112,97,115,115]))),(1,1,(.t 37))]),on (.st 2 (.t 2) (.t 38)),oz 3 (.mv (.k (.b true)))]) .ret) .skip)))))))))))))) (.seq (rg false [oz 39 (.bld (zz [(1, .s []),(1, .nils)]) []),on (.st 2 (.t 2) (.t 39)),oz 3 (.mv (.k (.b false)))]) .ret)))⟩
noncomputable def Sn:AC:=(.seq (rg false [oz 42 (.bin .lss (.t 41) (.t 40))]) (.seq (.cond (.t 42) .skip (.exit 1)) (.seq (.blk 2 (.seq (rg false [oz 43 (.ias 1 (.t 39) (.t 41)),oz 44 (.ld false 1 (.t 43)),oz 7 (.mv (.t 44))]) (.seq (.seq (rg false [oz 45 (.mv (.t 7)),oz 46 (.lens (.t 45)),oz 47 (.mv (.t 5)),oz 48 (.bin .sub (.k (.i .i64 9223372036854775807)) (.t 47)),oz 49 (.bin .gtr (.t 46) (.t 48))]) (.cond (.t 49) (rg false [oz 50 (.mkif 9 (.k (.s [115,116,114,105,110,103,115,58,32,74,111,105,110,32,111,117,116,112,117,116,32,108,101,110,103,116,104,32,111,118,101,114,102,108,111,119]))),on (.die)]) .skip)) (rg false [oz 51 (.mv (.t 5)),oz 52 (.mv (.t 7)),oz 53 (.lens (.t 52)),oz 54 (.bin .add (.t 51) (.t 53)),oz 5 (.mv (.t 54))])))) (rg false [oz 55 (.bin .add (.t 41) (.k (.i .i64 1))),oz 41 (.mv (.t 55))]))))
noncomputable def Sm:AC:=(.seq (rg false [oz 66 (.bin .lss (.t 65) (.t 64))]) (.seq (.cond (.t 66) .skip (.exit 3)) (.seq (.blk 4 (.seq (rg false [oz 67 (.ias 1 (.t 63) (.t 65)),oz 68 (.ld false 1 (.t 67)),oz 10 (.mv (.t 68))]) (.seq (rg false [oz 69 (.mv (.t 1)),oz 70 (.call B5 [(.t 8),(.t 69)])]) (rg false [oz 71 (.mv (.t 10)),oz 72 (.call B5 [(.t 8),(.t 71)])])))) (rg false [oz 73 (.bin .add (.t 65) (.k (.i .i64 1))),oz 65 (.mv (.t 73))]))))
noncomputable def Jv:D7:=⟨false,2,75,[.tmp 4],(.seq (rg false [oz 4 (.mv (.k (.s [])))]) (.seq (.seq (rg false [oz 11 (.mv (.t 0)),oz 12 (.len (.t 11))]) (.blk 0 (.seq (rg false [oz 14 (.bin .eql (.t 12) (.k (.i .i64 0))),oz 13 (.mv (.t 14))]) (.cond (.t 13) (.seq (rg false [oz 4 (.mv (.k (.s [])))]) .ret) (.seq (rg false [oz 16 (.bin .eql (.t 12) (.k (.i .i64 1))),oz 15 (.mv (.t 16))]) (.cond (.t 15) (.seq (rg false [oz 17 (.mv (.t 0)),oz 18 (.ias 1 (.t 17) (.k (.i .i64 0))),oz 19 (.ld false 1 (.t 18)),oz 4 (.mv (.t 19))]) .ret) .skip)))))) (.seq (rg false [oz 5 (.mv (.k (.i .i64 0)))]) (.seq (.seq (rg false [oz 20 (.mv (.t 1)),oz 21 (.lens (.t 20)),oz 22 (.bin .gtr (.t 21) (.k (.i .i64 0)))]) (.cond (.t 22) (.seq (.seq (rg false [oz 23 (.mv (.t 1)),oz 24 (.lens (.t 23)),oz 25 (.mv (.t 0)),oz 26 (.len (.t 25)),oz 27 (.bin .sub (.t 26) (.k (.i .i64 1))),oz 28 (.bin .quo (.k (.i .i64 9223372036854775807)) (.t 27)),oz 29 (.bin .geq (.t 24) (.t 28))]) (.cond (.t 29) (rg false [oz 30 (.mkif 9 (.k (.s [115,116,114,105,110,103,115,58,32,74,111,105,110,32,111,117,116,112,117,116,32,108,101,110,103,116,104,32,111,118,101,114,102,108,111,119]))),on (.die)]) .skip)) (rg false [oz 31 (.mv (.t 5)),oz 32 (.mv (.t 1)),oz 33 (.lens (.t 32)),oz 34 (.mv (.t 0)),oz 35 (.len (.t 34)),oz 36 (.bin .sub (.t 35) (.k (.i .i64 1))),oz 37 (.bin .mul (.t 33) (.t 36)),oz 38 (.bin .add (.t 31) (.t 37)),oz 5 (.mv (.t 38))])) .skip)) (.seq (.seq (rg false [oz 39 (.mv (.t 0)),oz 40 (.len (.t 39)),oz 41 (.mv (.k (.i .i64 0)))])
 (.blk 1 (.loop [0,1,5,39,40,41] Sn))) (.seq (rg false [oz 8 (.alloc 107 (zz [(1, .nilp),(1, .nils)]))]) (.seq (rg false [oz 56 (.mv (.t 5)),oz 57 (.call Dk [(.t 8),(.t 56)])]) (.seq (rg false [oz 58 (.mv (.t 0)),oz 59 (.ias 1 (.t 58) (.k (.i .i64 0))),oz 60 (.ld false 1 (.t 59)),oz 61 (.call B5 [(.t 8),(.t 60)])]) (.seq (.seq (rg false [oz 62 (.mv (.t 0)),oz 63 (.sll 1 (.t 62) (some (.k (.i .i64 1))) none),oz 64 (.len (.t 63)),oz 65 (.mv (.k (.i .i64 0)))]) (.blk 3 (.loop [1,8,63,64,65] Sm))) (.seq (rg false [oz 74 (.call Cv [(.t 8)]),oz 4 (.mv (.t 74))]) .ret))))))))))⟩
noncomputable def T1:AC:=(.blk 1 (.seq (rg false [oz 10 (.mv (.t 0)),oz 11 (.mv (.t 1)),oz 12 (.call EV [(.t 10),(.t 11)]),oz 9 (.mv (.t 12)),oz 13 (.ext (.t 9) 0),oz 14 (.ext (.t 9) 1),oz 15 (.ext (.t 9) 2),oz 6 (.mv (.t 13)),oz 7 (.mv (.t 14)),oz 8 (.mv (.t 15))]) (.seq (rg false [oz 16 (.mv (.t 5)),oz 17 (.mv (.t 6)),oz 18 (.bll 1 (List.replicate 1 Ak.zc) [(0,(.t 17))]),oz 19 (.app 9 1 16 (.t 16) (.t 18)),oz 5 (.mv (.t 19))]) (.seq (.seq (rg false [oz 20 (.mv (.t 8)),oz 21 (.un .not (.t 20))]) (.cond (.t 21) (.seq (rg false [oz 22 (.mv (.t 5)),oz 4 (.mv (.t 22))]) .ret) .skip)) (rg false [oz 23 (.mv (.t 7)),oz 0 (.mv (.t 23))])))))
noncomputable def Kp:D7:=⟨false,2,24,[.tmp 4],(.seq (rg false [oz 4 (.mv (.k (.nils)))]) (.seq (rg false [oz 5 (.mv (.k (.nils)))]) (.blk 0 (.loop [0,1,5] T1))))⟩
noncomputable def UR:AC:=(.seq (.seq (rg false [oz 6 (.mv (.t 3)),oz 7 (.bin .leq (.t 6) (.k (.i .i64 6)))]) (.cond (.t 7) .skip (.exit 0))) (.seq (.blk 1 (.seq (rg false [oz 11 (.mv (.t 3)),oz 12 (.call DB [(.t 11)]),oz 10 (.mv (.t 12)),oz 13 (.ext (.t 10) 0),oz 14 (.ext (.t 10) 1),oz 4 (.alloc 66 (zz [(1, .s []),(1, .nils)])),on (.st 2 (.t 4) (.t 13)),oz 5 (.mv (.t 14))]) (.seq (rg false [oz 15 (.fa 0 (.t 4)),oz 16 (.ld false 1 (.t 15)),oz 17 (.mv (.t 0)),oz 18 (.bin .eql (.t 16) (.t 17))]) (.cond (.t 18) (.seq (rg false [oz 19 (.mv (.t 3)),oz 2 (.mv (.t 19))]) .ret) .skip)))) (rg false [oz 8 (.mv (.t 3)),oz 9 (.bin .add (.t 8) (.k (.i .i64 1))),oz 3 (.mv (.t 9))])))
noncomputable def Ln:D7:=⟨false,1,20,[.tmp 2],(.seq (rg false [oz 2 (.mv (.k (.i .i64 0)))]) (.seq (.seq (rg false [oz 3 (.mv (.k (.i .i64 1)))]) (.blk 0 (.loop [0,3] UR))) (.seq (rg false [oz 2 (.mv (.k (.i .i64 0)))]) .ret)))⟩
noncomputable def UU:AC:=(.seq (.seq (rg false [oz 5 (.mv (.t 4)),oz 6 (.mv (.t 0)),oz 7 (.len (.t 6)),oz 8 (.bin .lss (.t 5) (.t 7))]) (.cond (.t 8) .skip (.exit 0))) (.seq (.blk 1 (rg true [oz 11 (.mv (.t 3)),oz 12 (.mv (.t 0)),oz 13 (.mv (.t 4)),oz 14 (.ias 1 (.t 12) (.t 13)),oz 15 (.ld false 1 (.t 14)),oz 16 (.cvi .i64 (.t 15)),oz 17 (.bin .quo (.t 16) (.k (.i .i64 16))),oz 18 (.call ET [(.t 17)]),oz 19 (.bin .add (.t 11) (.t 18)),oz 20 (.mv (.t 0)),oz 21 (.mv (.t 4)),oz 22 (.ias 1 (.t 20) (.t 21)),oz 23 (.ld false 1 (.t 22)),oz 24 (.cvi .i64 (.t 23)),oz 25 (.bin .rem (.t 24) (.k (.i .i64 16))),oz 26 (.call ET [(.t 25)]),oz 27 (.bin .add (.t 19) (.t 26)),oz 3 (.mv (.t 27))])) (rg false [oz 9 (.mv (.t 4)),oz 10 (.bin .add (.t 9) (.k (.i .i64 1))),oz 4 (.mv (.t 10))])))
noncomputable def Lr:D7:=⟨false,1,29,[.tmp 2],(.seq (rg false [oz 2 (.mv (.k (.s [])))]) (.seq (rg false [oz 3 (.mv (.k (.s [])))]) (.seq (.seq (rg false [oz 4 (.mv (.k (.i .i64 0)))]) (.blk 0 (.loop [0,3,4] UU))) (.seq (rg false [oz 28 (.mv (.t 3)),oz 2 (.mv (.t 28))]) .ret))))⟩
noncomputable def Xh:AC:=(.seq (.seq (rg false [oz 5 (.mv (.t 4)),oz 6 (.bin .lss (.t 5) (.k (.i .i64 32)))]) (.cond (.t 6) .skip (.exit 0))) (.seq (.blk 1 (rg false [oz 9 (.mv (.t 3)),oz 10 (.mv (.t 4)),oz 11 (.iaa 32 1 (.t 1) (.t 10)),oz 12 (.ld false 1 (.t 11)),oz 13 (.bll 1 (List.replicate 1 T.u8.zc) [(0,(.t 12))]),oz 14 (.app 5 1 1 (.t 9) (.t 13)),oz 3 (.mv (.t 14))])) (rg false [oz 7 (.mv (.t 4)),oz 8 (.bin .add (.t 7) (.k (.i .i64 1))),oz 4 (.mv (.t 8))])))
noncomputable def M0:D7:=⟨false,1,16,[.tmp 2],(.seq (rg false [oz 1 (.box 29 32 (.t 0)),oz 2 (.mv (.k (.nils)))]) (.seq (rg false [oz 3 (.mv (.k (.nils)))]) (.seq (.seq (rg false [oz 4 (.mv (.k (.i .i64 0)))]) (.blk 0 (.loop [1,3,4] Xh))) (.seq (rg false [oz 15 (.mv (.t 3)),oz 2 (.mv (.t 15))]) .ret))))⟩
noncomputable def NX:D7:=⟨false,1,8,[.tmp 2],(.seq (rg false [oz 2 (.mv (.k (.s [])))]) (.seq (.seq (rg false [oz 3 (.mv (.t 0)),oz 4 (.len (.t 3)),oz 5 (.bin .eql (.t 4) (.k (.i .i64 0)))]) (.cond (.t 5) (.seq (rg false [oz 2 (.mv (.k (.s [45])))]) .ret) .skip)) (.seq (rg false [oz 6 (.mv (.t 0)),oz 7 (.call FX [(.t 6)]),oz 2 (.mv (.t 7))]) .ret)))⟩
noncomputable def Oa:D7:=⟨false,1,28,[.tmp 2],(.seq (rg false [oz 1 (.box 27 18 (.t 0)),oz 2 (.mv (.k (.s [])))]) (.seq (.seq (rg false [oz 4 (.ld true 18 (.t 1)),oz 5 (.call GK [(.t 4)]),oz 6 (.un .not (.t 5))]) (.cond (.t 6) (.seq (rg false [oz 2 (.mv (.k (.s [])))]) .ret) .skip)) (.seq (rg false [oz 7 (.fa 17 (.t 1)),oz 8 (.ld false 1 (.t 7)),oz 9 (.cvi .u64 (.t 8)),oz 10 (.call Ef [(.t 9)]),oz 11 (.bin .add (.k (.s [58])) (.t 10)),oz 3 (.mv (.t 11))]) (.seq (.seq (rg false [oz 12 (.fa 0 (.t 1)),oz 13 (.fa 0 (.t 12)),oz 14 (.ld false 1 (.t 13)),oz 15 (.bin .eql (.t 14) (.k (.i .i64 6)))]) (.cond (.t 15) (.seq (rg false [oz 16 (.fa 0 (.t 1)),oz 17 (.ld true 17 (.t 16)),oz 18 (.call HK [(.t 17)]),oz 19 (.bin .add (.k (.s [91])) (.t 18)),oz 20 (.bin .add (.t 19) (.k (.s [93]))),oz 21 (.mv (.t 3)),oz 22 (.bin .add (.t 20) (.t 21)),oz 2 (.mv (.t 22))]) .ret) .skip)) (.seq (rg false [oz 23 (.fa 0 (.t 1)),oz 24 (.ld true 17 (.t 23)),oz 25 (.call HK [(.t 24)]),oz 26 (.mv (.t 3)),oz 27 (.bin .add (.t 25) (.t 26)),oz 2 (.mv (.t 27))]) .ret)))))⟩
noncomputable def Of:D7:=⟨false,1,18,[.tmp 2],(.seq (rg false [oz 2 (.mv (.k (.s [])))]) (.seq (rg false [oz 4 (.mv (.t 0)),oz 5 (.bin .rem (.t 4) (.k (.i .u64 10))),oz 6 (.bin .add (.k (.i .u64 48)) (.t 5)),oz 7 (.cvi .u8 (.t 6)),oz 8 (.bls 5 1 (List.replicate 1 T.u8.zc) [(0,(.t 7))]),oz 9 (.cvs (.t 8)),oz 3 (.mv (.t 9))]) (.seq (.seq (rg false [oz 10 (.mv (.t 0)),oz 11 (.bin .lss (.t 10) (.k (.i .u64 10)))]) (.cond (.t 11) (.seq (rg false [oz 12 (.mv (.t 3)),oz 2 (.mv (.t 12))]) .ret) .skip)) (.seq (rg false [oz 13 (.mv (.t 0)),oz 14 (.bin .quo (.t 13) (.k (.i .u64 10))),oz 15 (.call Ef [(.t 14)]),oz 16 (.mv (.t 3)),oz 17 (.bin .add (.t 15) (.t 16)),oz 2 (.mv (.t 17))]) .ret))))⟩
noncomputable def Yt:AC:=(.seq (.seq (rg false [oz 11 (.mv (.t 5)),oz 12 (.mv (.t 0)),oz 13 (.len (.t 12)),oz 14 (.bin .lss (.t 11) (.t 13))]) (.cond (.t 14) .skip (.exit 0))) (.seq (.blk 1 (.seq (rg true [oz 17 (.mv (.t 0)),oz 18 (.mv (.t 5)),oz 19 (.ias 1 (.t 17) (.t 18)),oz 20 (.ld false 1 (.t 19)),oz 21 (.mv (.t 1)),oz 22 (.mv (.t 5)),oz 23 (.ias 1 (.t 21) (.t 22)),oz 24 (.ld false 1 (.t 23)),oz 25 (.bin .neq (.t 20) (.t 24))]) (.cond (.t 25) (.seq (rg false [oz 4 (.mv (.k (.b false)))]) .ret) .skip))) (rg false [oz 15 (.mv (.t 5)),oz 16 (.bin .add (.t 15) (.k (.i .i64 1))),oz 5 (.mv (.t 16))])))
noncomputable def Og:D7:=⟨false,2,26,[.tmp 4],(.seq (rg false [oz 4 (.mv (.k (.b false)))]) (.seq (.seq (rg false [oz 6 (.mv (.t 0)),oz 7 (.len (.t 6)),oz 8 (.mv (.t 1)),oz 9 (.len (.t 8)),oz 10 (.bin .neq (.t 7) (.t 9))]) (.cond (.t 10) (.seq (rg false [oz 4 (.mv (.k (.b false)))]) .ret) .skip)) (.seq (.seq (rg false [oz 5 (.mv (.k (.i .i64 0)))]) (.blk 0 (.loop [0,1,5] Yt))) (.seq (rg false [oz 4 (.mv (.k (.b true)))]) .ret))))⟩
noncomputable def Ku:D7:=⟨false,2,10,[.tmp 4],(.seq (rg false [oz 4 (.mv (.k (.b false)))]) (.seq (rg false [oz 5 (.mv (.t 0)),oz 6 (.cvs (.t 5)),oz 7 (.mv (.t 1)),oz 8 (.cvs (.t 7)),oz 9 (.bin .eql (.t 6) (.t 8)),oz 4 (.mv (.t 9))]) .ret))⟩
noncomputable def Xg:AC:=(.seq (.seq (rg false [oz 7 (.mv (.t 3)),oz 8 (.bin .lss (.t 7) (.k (.i .i64 16)))]) (.cond (.t 8) .skip (.exit 0))) (.seq (.blk 1 (.seq (rg false [oz 11 (.mv (.t 3)),oz 12 (.fa 1 (.t 1)),oz 13 (.iaa 16 1 (.t 12) (.t 11)),oz 14 (.ld false 1 (.t 13)),oz 15 (.bin .neq (.t 14) (.k (.i .u8 0)))]) (.cond (.t 15) (.seq (rg false [oz 2 (.mv (.k (.b false)))]) .ret) .skip))) (rg false [oz 9 (.mv (.t 3)),oz 10 (.bin .add (.t 9) (.k (.i .i64 1))),oz 3 (.mv (.t 10))])))
noncomputable def Mz:D7:=⟨false,1,19,[.tmp 2],(.seq (rg false [oz 1 (.box 25 17 (.t 0)),oz 2 (.mv (.k (.b false)))]) (.seq (.seq (rg false [oz 4 (.fa 0 (.t 1)),oz 5 (.ld false 1 (.t 4)),oz 6 (.bin .eql (.t 5) (.k (.i .i64 6)))]) (.cond (.t 6) (.seq (rg false [oz 2 (.mv (.k (.b true)))]) .ret) .skip)) (.seq (.seq (rg false [oz 3 (.mv (.k (.i .i64 4)))]) (.blk 0 (.loop [1,3] Xg))) (.seq (rg false [oz 16 (.fa 0 (.t 1)),oz 17 (.ld false 1 (.t 16)),oz 18 (.bin .eql (.t 17) (.k (.i .i64 4))),oz 2 (.mv (.t 18))]) .ret))))⟩
noncomputable def NW:D7:=⟨true,0,2,[.cell true 3 0],(.seq (rg false [oz 0 (.alloc 72 (zz [(3, .nilf)]))]) (.seq (rg false [oz 1 (.bld (zz [(3, .nilf)]) [(0,1,(.f AS)),(1,1,(.f AW)),(2,1,(.f AU))]),on (.st 3 (.t 0) (.t 1))]) .ret))⟩
noncomputable def Rm:D7:=⟨true,0,2,[.cell true 3 0],(.seq (rg false [oz 0 (.alloc 72 (zz [(3, .nilf)]))]) (.seq (rg false [oz 1 (.bld (zz [(3, .nilf)]) [(0,1,(.f Ct)),(1,1,(.f C4)),(2,1,(.f C3))]),on (.st 3 (.t 0) (.t 1))]) .ret))⟩
noncomputable def Py:D7:=⟨true,0,2,[.cell true 3 0],(.seq (rg false [oz 0 (.alloc 72 (zz [(3, .nilf)]))]) (.seq (rg false [oz 1 (.bld (zz [(3, .nilf)]) [(0,1,(.f BP)),(1,1,(.f Ci)),(2,1,(.f Ch))]),on (.st 3 (.t 0) (.t 1))]) .ret))⟩
noncomputable def Px:D7:=⟨true,0,2,[.cell true 3 0],(.seq (rg false [oz 0 (.alloc 72 (zz [(3, .nilf)]))]) (.seq (rg false [oz 1 (.bld (zz [(3, .nilf)]) [(0,1,(.f Da)),(1,1,(.f Dv)),(2,1,(.f Du))]),on (.st 3 (.t 0) (.t 1))]) .ret))⟩
noncomputable def Ga:D7:=⟨false,2,25,[],(.seq (rg false [oz 4 (.mv (.t 0)),oz 5 (.call BE [(.t 4)])]) (.seq (.seq (rg false [oz 6 (.mv (.t 1)),oz 7 (.bin .lss (.t 6) (.k (.i .i64 0)))]) (.cond (.t 7) (rg false [oz 8 (.mkif 9 (.k (.s [115,116,114,105,110,103,115,46,66,117,105,108,100,101,114,46,71,114,111,119,58,32,110,101,103,97,116,105,118,101,32,99,111,117,110,116]))),on (.die)]) .skip)) (.seq (rg true [oz 9 (.mv (.t 0)),oz 10 (.nilc (.t 9)),oz 11 (.fa 1 (.t 10)),oz 12 (.ld false 1 (.t 11)),oz 13 (.capn (.t 12)),oz 14 (.mv (.t 0)),oz 15 (.nilc (.t 14)),oz 16 (.fa 1 (.t 15)),oz 17 (.ld false 1 (.t 16)),oz 18 (.len (.t 17)),oz 19 (.bin .sub (.t 13) (.t 18)),oz 20 (.mv (.t 1)),oz 21 (.bin .lss (.t 19) (.t 20))]) (.cond (.t 21) (rg false [oz 22 (.mv (.t 0)),oz 23 (.mv (.t 1)),oz 24 (.call F0 [(.t 22),(.t 23)])]) .skip))))⟩
noncomputable def Ek:D7:=⟨false,2,19,[.tmp 4, .tmp 5],(.seq (rg false [oz 4 (.mv (.k (.i .i64 0))),oz 5 (.mv (.k (.nili)))]) (.seq (rg false [oz 6 (.mv (.t 0)),oz 7 (.call BE [(.t 6)])]) (.seq (rg false [oz 8 (.mv (.t 0)),oz 9 (.mv (.t 0)),oz 10 (.nilc (.t 9)),oz 11 (.fa 1 (.t 10)),oz 12 (.ld false 1 (.t 11)),oz 13 (.mv (.t 1)),oz 14 (.app 5 1 1 (.t 12) (.t 13)),oz 15 (.nilc (.t 8)),oz 16 (.fa 1 (.t 15)),on (.st 1 (.t 16) (.t 14))]) (.seq (rg false [oz 17 (.mv (.t 1)),oz 18 (.lens (.t 17)),oz 4 (.mv (.t 18)),oz 5 (.mv (.k (.nili)))]) .ret))))⟩
noncomputable def Fo:D7:=⟨false,1,14,[.tmp 2],(.seq (rg false [oz 2 (.mv (.k (.s [])))]) (.seq (.regd [oz 3 (.mv (.t 0)),oz 4 (.nilc (.t 3)),oz 5 (.fa 1 (.t 4)),oz 6 (.ld false 1 (.t 5)),oz 7 (.usd (.t 6)),oz 8 (.mv (.t 0)),oz 9 (.nilc (.t 8)),oz 10 (.fa 1 (.t 9)),oz 11 (.ld false 1 (.t 10)),oz 12 (.len (.t 11)),oz 13 (.ust 5 (.t 7) (.t 12)),oz 2 (.mv (.t 13))] [some (0,0),some (0,0),some (0,0),some (0,0),some (0,0),some (0,0),some (0,0),some (0,0),some (0,0),some (0,0),none,some (1,1)]) .ret))⟩
noncomputable def M4:D7:=⟨false,2,21,[.tmp 4, .tmp 5, .tmp 6],(.seq (rg false [oz 4 (.mv (.k (.s []))),oz 5 (.mv (.k (.s []))),oz 6 (.mv (.k (.b false)))]) (.seq (rg false [oz 8 (.mv (.t 0)),oz 9 (.mv (.t 1)),oz 10 (.call Db [(.t 8),(.t 9)]),oz 7 (.mv (.t 10))]) (.seq (.seq (rg false [oz 11 (.mv (.t 7)),oz 12 (.bin .lss (.t 11) (.k (.i .i64 0)))]) (.cond (.t 12) (.seq (rg false [oz 13 (.mv (.t 0)),oz 4 (.mv (.t 13)),oz 5 (.mv (.k (.s []))),oz 6 (.mv (.k (.b false)))]) .ret) .skip)) (.seq (rg true [oz 14 (.mv (.t 0)),oz 15 (.mv (.t 7)),oz 16 (.sls (.t 14) none (some (.t 15))),oz 17 (.mv (.t 0)),oz 18 (.mv (.t 7)),oz 19 (.bin .add (.t 18) (.k (.i .i64 1))),oz 20 (.sls (.t 17) (some (.t 19)) none),oz 4 (.mv (.t 16)),oz 5 (.mv (.t 20)),oz 6 (.mv (.k (.b true)))]) .ret))))⟩
noncomputable def M1:D7:=⟨false,1,7,[.tmp 2],(.seq (rg false [oz 2 (.mv (.k (.s [])))]) (.seq (rg false [oz 3 (.mv (.t 0)),oz 4 (.mv (.t 0)),oz 5 (.bin .add (.t 4) (.k (.i .i64 1))),oz 6 (.sls (.k (.s [48,49,50,51,52,53,54,55,56,57,97,98,99,100,101,102])) (some (.t 3)) (some (.t 5))),oz 2 (.mv (.t 6))]) .ret))⟩
noncomputable def Oc:D7:=⟨false,1,26,[.tmp 2],(.seq (rg false [oz 1 (.box 25 17 (.t 0)),oz 2 (.mv (.k (.s [])))]) (.seq (.seq (rg false [oz 3 (.ld true 17 (.t 1)),oz 4 (.call GL [(.t 3)]),oz 5 (.un .not (.t 4))]) (.cond (.t 5) (.seq (rg false [oz 2 (.mv (.k (.s [])))]) .ret) .skip)) (.seq (.seq (rg false [oz 6 (.fa 0 (.t 1)),oz 7 (.ld false 1 (.t 6)),oz 8 (.bin .eql (.t 7) (.k (.i .i64 6)))]) (.cond (.t 8) (.seq (rg false [oz 9 (.fa 1 (.t 1)),oz 10 (.ld true 16 (.t 9)),oz 11 (.call IM [(.t 10)]),oz 2 (.mv (.t 11))]) .ret) .skip)) (.seq (rg false [oz 12 (.fa 1 (.t 1)),oz 13 (.iaa 16 1 (.t 12) (.k (.i .i64 0))),oz 14 (.ld false 1 (.t 13)),oz 15 (.fa 1 (.t 1)),oz 16 (.iaa 16 1 (.t 15) (.k (.i .i64 1))),oz 17 (.ld false 1 (.t 16)),oz 18 (.fa 1 (.t 1)),oz 19 (.iaa 16 1 (.t 18) (.k (.i .i64 2))),oz 20 (.ld false 1 (.t 19)),oz 21 (.fa 1 (.t 1)),oz 22 (.iaa 16 1 (.t 21) (.k (.i .i64 3))),oz 23 (.ld false 1 (.t 22)),oz 24 (.bld (T.arr 4 T.u8).zc [(0,1,(.t 14)),(1,1,(.t 17)),(2,1,(.t 20)),(3,1,(.t 23))]),oz 25 (.call IN [(.t 24)]),oz 2 (.mv (.t 25))]) .ret))))⟩
noncomputable def Ig:D7:=⟨false,1,16,[.tmp 2],(.seq (rg false [oz 1 (.box 27 18 (.t 0)),oz 2 (.mv (.k (.b false)))]) (.seq (rg false [oz 3 (.fa 0 (.t 1)),oz 4 (.ld true 17 (.t 3)),oz 5 (.call EZ [(.t 4)]),oz 6 (.mv (.t 5)),⟨some 7,some (6,true), .fa 17 (.t 1)⟩,⟨some 8,some (6,true), .ld false 1 (.t 7)⟩,⟨some 9,some (6,true), .bin .geq (.t 8) (.k (.i .i64 1))⟩,oz 10 (.pick (.t 6) (.t 9) (.k (.b false))),oz 11 (.mv (.t 10)),⟨some 12,some (11,true), .fa 17 (.t 1)⟩,⟨some 13,some (11,true), .ld false 1 (.t 12)⟩,⟨some 14,some (11,true), .bin .leq (.t 13) (.k (.i .i64 65535))⟩,oz 15 (.pick (.t 11) (.t 14) (.k (.b false))),oz 2 (.mv (.t 15))]) .ret))⟩
noncomputable def Ju:D7:=⟨false,1,10,[.tmp 2],(.seq (rg false [oz 1 (.box 32 53 (.t 0)),oz 2 (.mv (.k (.s [])))]) (.seq (.seq (rg false [oz 3 (.fa 1 (.t 1)),oz 4 (.ld false 1 (.t 3)),oz 5 (.len (.t 4)),oz 6 (.bin .eql (.t 5) (.k (.i .i64 0)))]) (.cond (.t 6) (.seq (rg false [oz 2 (.mv (.k (.s [45])))]) .ret) .skip)) (.seq (rg false [oz 7 (.fa 1 (.t 1)),oz 8 (.ld false 1 (.t 7)),oz 9 (.call EI [(.t 8)]),oz 2 (.mv (.t 9))]) .ret)))⟩
noncomputable def So:AC:=(.seq (rg false [oz 9 (.bin .lss (.t 8) (.t 7))]) (.seq (.cond (.t 9) .skip (.exit 0)) (.seq (.blk 1 (.seq (rg false [oz 10 (.ias 1 (.t 6) (.t 8)),oz 11 (.ld false 1 (.t 10)),oz 5 (.mv (.t 11))]) (.seq (rg false [oz 12 (.mv (.t 5)),oz 13 (.bin .shr (.t 12) (.k (.i .u64 4))),oz 14 (.ixs (.k (.s [48,49,50,51,52,53,54,55,56,57,97,98,99,100,101,102])) (.t 13)),oz 15 (.call BZ [(.t 3),(.t 14)])]) (rg false [oz 16 (.mv (.t 5)),oz 17 (.bin .and (.t 16) (.k (.i .u8 15))),oz 18 (.ixs (.k (.s [48,49,50,51,52,53,54,55,56,57,97,98,99,100,101,102])) (.t 17)),oz 19 (.call BZ [(.t 3),(.t 18)])])))) (rg false [oz 20 (.bin .add (.t 8) (.k (.i .i64 1))),oz 8 (.mv (.t 20))]))))
noncomputable def Jw:D7:=⟨false,1,22,[.tmp 2],(.seq (rg false [oz 2 (.mv (.k (.s [])))]) (.seq (rg false [oz 3 (.alloc 107 (zz [(1, .nilp),(1, .nils)]))]) (.seq (.seq (rg false [oz 6 (.mv (.t 0)),oz 7 (.len (.t 6)),oz 8 (.mv (.k (.i .i64 0)))]) (.blk 0 (.loop [3,6,7,8] So))) (.seq (rg false [oz 21 (.call Cv [(.t 3)]),oz 2 (.mv (.t 21))]) .ret))))⟩
noncomputable def LU:D7:=⟨true,2,14,[.tmp 4],(.seq (rg false [oz 4 (.mv (.k (.i .i64 0)))]) (.seq (rg false [oz 6 (.mv (.t 0)),oz 7 (.mv (.t 1)),oz 8 (.call F4 [(.t 7)]),oz 5 (.mv (.t 8)),oz 9 (.ext (.t 5) 0),oz 10 (.ext (.t 5) 1),oz 11 (.nilc (.t 6)),oz 12 (.fa 1 (.t 11)),on (.st 1 (.t 12) (.t 9)),oz 4 (.mv (.t 10))]) (.seq (rg false [oz 13 (.mv (.t 4)),oz 4 (.mv (.t 13))]) .ret)))⟩
noncomputable def Jt:D7:=⟨false,1,13,[.tmp 2, .tmp 3],(.seq (rg false [oz 2 (.mv (.k (.nils))),oz 3 (.mv (.k (.i .i64 0)))]) (.seq (.seq (rg false [oz 4 (.mv (.t 0))]) (.blk 0 (.seq (rg false [oz 6 (.bin .eql (.t 4) (.k (.s [45]))),oz 5 (.mv (.t 6))]) (.cond (.t 5) (.seq (rg false [oz 2 (.mv (.k (.nils))),oz 3 (.mv (.k (.i .i64 0)))]) .ret) (.seq (rg false [oz 8 (.bin .eql (.t 4) (.k (.s []))),oz 7 (.mv (.t 8))]) (.cond (.t 7) (.seq (rg false [oz 2 (.mv (.k (.nils))),oz 3 (.mv (.k (.i .i64 5)))]) .ret) .skip)))))) (.seq (rg false [oz 9 (.mv (.t 0)),oz 10 (.call EJ [(.t 9)]),oz 11 (.ext (.t 10) 0),oz 12 (.ext (.t 10) 1),oz 2 (.mv (.t 11)),oz 3 (.mv (.t 12))]) .ret)))⟩
noncomputable def LT:D7:=⟨true,1,6,[.tmp 2],(.seq (rg false [oz 2 (.mv (.k (.b false)))]) (.seq (rg false [oz 3 (.mv (.t 0)),oz 4 (.nilc (.t 3)),oz 5 (.fa 1 (.t 4)),on (.st 1 (.t 5) (.k (.nils)))]) (.seq (rg false [oz 2 (.mv (.k (.b true)))]) .ret)))⟩
noncomputable def Lm:D7:=⟨false,1,6,[.tmp 2],(.seq (rg false [oz 1 (.box 32 53 (.t 0)),oz 2 (.mv (.k (.s [])))]) (.seq (rg false [oz 3 (.fa 2 (.t 1)),oz 4 (.ld true 18 (.t 3)),oz 5 (.call Fg [(.t 4)]),oz 2 (.mv (.t 5))]) .ret))⟩
noncomputable def I1:D7:=⟨false,1,28,[.tmp 2],(.seq (rg false [oz 1 (.box 27 18 (.t 0)),oz 2 (.mv (.k (.s [])))]) (.seq (.seq (rg false [oz 4 (.ld true 18 (.t 1)),oz 5 (.call DV [(.t 4)]),oz 6 (.un .not (.t 5))]) (.cond (.t 6) (.seq (rg false [oz 2 (.mv (.k (.s [])))]) .ret) .skip)) (.seq (rg false [oz 7 (.fa 17 (.t 1)),oz 8 (.ld false 1 (.t 7)),oz 9 (.cvi .u64 (.t 8)),oz 10 (.call Eg [(.t 9)]),oz 3 (.mv (.t 10))]) (.seq (.seq (rg false [oz 11 (.fa 0 (.t 1)),oz 12 (.ld true 17 (.t 11)),oz 13 (.call Hp [(.t 12)]),oz 14 (.bin .gtr (.t 13) (.k (.i .i64 32)))]) (.cond (.t 14) (.seq (rg false [oz 15 (.fa 0 (.t 1)),oz 16 (.ld true 17 (.t 15)),oz 17 (.call GM [(.t 16)]),oz 18 (.bin .add (.k (.s [91])) (.t 17)),oz 19 (.bin .add (.t 18) (.k (.s [93,58]))),oz 20 (.mv (.t 3)),oz 21 (.bin .add (.t 19) (.t 20)),oz 2 (.mv (.t 21))]) .ret) .skip)) (.seq (rg false [oz 22 (.fa 0 (.t 1)),oz 23 (.ld true 17 (.t 22)),oz 24 (.call GM [(.t 23)]),oz 25 (.bin .add (.t 24) (.k (.s [58]))),oz 26 (.mv (.t 3)),oz 27 (.bin .add (.t 25) (.t 26)),oz 2 (.mv (.t 27))]) .ret)))))⟩
noncomputable def NV:D7:=⟨true,2,14,[.tmp 4],(.seq (rg false [oz 4 (.mv (.k (.i .i64 0)))]) (.seq (rg false [oz 6 (.mv (.t 0)),oz 7 (.mv (.t 1)),oz 8 (.call EG [(.t 7)]),oz 5 (.mv (.t 8)),oz 9 (.ext (.t 5) 0),oz 10 (.ext (.t 5) 1),oz 11 (.nilc (.t 6)),oz 12 (.fa 2 (.t 11)),on (.st 18 (.t 12) (.t 9)),oz 4 (.mv (.t 10))]) (.seq (rg false [oz 13 (.mv (.t 4)),oz 4 (.mv (.t 13))]) .ret)))⟩
noncomputable def Ih:D7:=⟨false,1,46,[.cell true 18 2, .tmp 3],(.seq (rg false [oz 2 (.alloc 27 Al.zc),oz 3 (.mv (.k (.i .i64 0)))]) (.seq (rg false [oz 11 (.mv (.t 0)),oz 12 (.call Ev [(.t 11)]),oz 10 (.mv (.t 12)),oz 13 (.ext (.t 10) 0),oz 14 (.ext (.t 10) 1),oz 15 (.ext (.t 10) 2),oz 4 (.mv (.t 13)),oz 5 (.mv (.t 14)),oz 6 (.mv (.t 15))]) (.seq (.seq (rg false [oz 16 (.mv (.t 6)),oz 17 (.un .not (.t 16))]) (.cond (.t 17) (.seq (rg false [oz 18 (.bld Al.zc []),on (.st 18 (.t 2) (.t 18)),oz 3 (.mv (.k (.i .i64 5)))]) .ret) .skip)) (.seq (rg false [oz 20 (.mv (.t 4)),oz 21 (.call Hq [(.t 20)]),oz 19 (.mv (.t 21)),oz 22 (.ext (.t 19) 0),oz 23 (.ext (.t 19) 1),oz 7 (.alloc 25 A7.zc),on (.st 17 (.t 7) (.t 22)),oz 8 (.mv (.t 23))]) (.seq (.seq (rg false [oz 24 (.mv (.t 8)),oz 25 (.bin .neq (.t 24) (.k (.i .i64 0)))]) (.cond (.t 25) (.seq (rg false [oz 26 (.bld Al.zc []),oz 27 (.mv (.t 8)),on (.st 18 (.t 2) (.t 26)),oz 3 (.mv (.t 27))]) .ret) .skip)) (.seq (rg false [oz 29 (.mv (.t 5)),oz 30 (.call Eh [(.t 29),(.k (.i .u64 65535))]),oz 28 (.mv (.t 30)),oz 31 (.ext (.t 28) 0),oz 32 (.ext (.t 28) 1),oz 9 (.mv (.t 31)),oz 8 (.mv (.t 32))]) (.seq (.blk 0 (.seq (rg false [oz 34 (.mv (.t 8)),oz 35 (.bin .neq (.t 34) (.k (.i .i64 0))),oz 33 (.mv (.t 35))]) (.cond (.t 33) (.seq (rg false [oz 36 (.bld Al.zc []),oz 37 (.mv (.t 8)),on (.st 18 (.t 2) (.t 36)),oz 3 (.mv (.t 37))]) .ret) (.seq (rg false [oz 39 (.mv (.t 9)),oz 40 (.bin .eql (.t 39) (.k (.i .u64 0))),oz 38 (.mv (.t 40))]) (.cond (.t 38)
   (.seq (rg false [oz 41 (.bld Al.zc []),on (.st 18 (.t 2) (.t 41)),oz 3 (.mv (.k (.i .i64 6)))]) .ret) .skip))))) (.seq (rg false [oz 42 (.ld true 17 (.t 7)),oz 43 (.mv (.t 9)),oz 44 (.cvi .i64 (.t 43)),oz 45 (.bld Al.zc [(0,17,(.t 42)),(17,1,(.t 44))]),on (.st 18 (.t 2) (.t 45)),oz 3 (.mv (.k (.i .i64 0)))]) .ret))))))))⟩
noncomputable def NU:D7:=⟨true,1,14,[.tmp 2],(.seq (rg false [oz 2 (.mv (.k (.b false)))]) (.seq (rg false [oz 4 (.mv (.t 0)),oz 5 (.nilc (.t 4)),oz 6 (.fa 2 (.t 5)),oz 7 (.ld true 18 (.t 6)),oz 8 (.call DV [(.t 7)]),oz 3 (.mv (.t 8))]) (.seq (rg false [oz 9 (.mv (.t 0)),oz 10 (.bld Al.zc []),oz 11 (.nilc (.t 9)),oz 12 (.fa 2 (.t 11)),on (.st 18 (.t 12) (.t 10))]) (.seq (rg false [oz 13 (.mv (.t 3)),oz 2 (.mv (.t 13))]) .ret))))⟩
noncomputable def Kl:D7:=⟨false,1,6,[.tmp 2],(.seq (rg false [oz 1 (.box 32 53 (.t 0)),oz 2 (.mv (.k (.s [])))]) (.seq (rg false [oz 3 (.fa 20 (.t 1)),oz 4 (.ld true 32 (.t 3)),oz 5 (.call IR [(.t 4)]),oz 2 (.mv (.t 5))]) .ret))⟩
noncomputable def Oi:D7:=⟨false,1,5,[.tmp 2],(.seq (rg false [oz 1 (.box 29 32 (.t 0)),oz 2 (.mv (.k (.s [])))]) (.seq (rg false [oz 3 (.sla 32 1 (.t 1) none none),oz 4 (.call EI [(.t 3)]),oz 2 (.mv (.t 4))]) .ret))⟩
noncomputable def MP:D7:=⟨true,2,14,[.tmp 4],(.seq (rg false [oz 4 (.mv (.k (.i .i64 0)))]) (.seq (rg false [oz 6 (.mv (.t 0)),oz 7 (.mv (.t 1)),oz 8 (.call Ff [(.t 7)]),oz 5 (.mv (.t 8)),oz 9 (.ext (.t 5) 0),oz 10 (.ext (.t 5) 1),oz 11 (.nilc (.t 6)),oz 12 (.fa 20 (.t 11)),on (.st 32 (.t 12) (.t 9)),oz 4 (.mv (.t 10))]) (.seq (rg false [oz 13 (.mv (.t 4)),oz 4 (.mv (.t 13))]) .ret)))⟩
noncomputable def Iz:D7:=⟨false,1,19,[.cell true 32 2, .tmp 3],(.seq (rg false [oz 2 (.alloc 29 (T.arr 32 T.u8).zc),oz 3 (.mv (.k (.i .i64 0)))]) (.seq (rg false [oz 7 (.mv (.t 0)),oz 8 (.call EJ [(.t 7)]),oz 6 (.mv (.t 8)),oz 9 (.ext (.t 6) 0),oz 10 (.ext (.t 6) 1),oz 4 (.mv (.t 9)),oz 5 (.mv (.t 10))]) (.seq (.seq (rg false [oz 11 (.mv (.t 5)),oz 12 (.bin .neq (.t 11) (.k (.i .i64 0)))]) (.cond (.t 12) (.seq (rg false [oz 13 (.bld (T.arr 32 T.u8).zc []),oz 14 (.mv (.t 5)),on (.st 32 (.t 2) (.t 13)),oz 3 (.mv (.t 14))]) .ret) .skip)) (.seq (rg false [oz 15 (.mv (.t 4)),oz 16 (.call JT [(.t 15)]),oz 17 (.ext (.t 16) 0),oz 18 (.ext (.t 16) 1),on (.st 32 (.t 2) (.t 17)),oz 3 (.mv (.t 18))]) .ret))))⟩
noncomputable def MO:D7:=⟨true,1,7,[.tmp 2],(.seq (rg false [oz 2 (.mv (.k (.b false)))]) (.seq (rg false [oz 3 (.mv (.t 0)),oz 4 (.bld (T.arr 32 T.u8).zc []),oz 5 (.nilc (.t 3)),oz 6 (.fa 20 (.t 5)),on (.st 32 (.t 6) (.t 4))]) (.seq (rg false [oz 2 (.mv (.k (.b true)))]) .ret)))⟩
noncomputable def Kk:D7:=⟨false,1,7,[.tmp 2],(.seq (rg false [oz 1 (.box 32 53 (.t 0)),oz 2 (.mv (.k (.s [])))]) (.seq (rg false [oz 3 (.fa 52 (.t 1)),oz 4 (.ld false 1 (.t 3)),oz 5 (.cvi .u64 (.t 4)),oz 6 (.call Eg [(.t 5)]),oz 2 (.mv (.t 6))]) .ret))⟩
noncomputable def J0:D7:=⟨false,1,5,[.tmp 2],(.seq (rg false [oz 2 (.mv (.k (.s [])))]) (.seq (rg false [oz 3 (.mv (.t 0)),oz 4 (.call Ds [(.t 3),(.k (.i .i64 10))]),oz 2 (.mv (.t 4))]) .ret))⟩
noncomputable def MN:D7:=⟨true,2,28,[.tmp 4],(.seq (rg false [oz 4 (.mv (.k (.i .i64 0)))]) (.seq (rg false [oz 8 (.mv (.t 1)),oz 9 (.call Eh [(.t 8),(.k (.i .u64 20))]),oz 7 (.mv (.t 9)),oz 10 (.ext (.t 7) 0),oz 11 (.ext (.t 7) 1),oz 5 (.mv (.t 10)),oz 6 (.mv (.t 11))]) (.seq (rg false [oz 12 (.mv (.t 0)),oz 13 (.mv (.t 5)),oz 14 (.cvi .i64 (.t 13)),oz 15 (.nilc (.t 12)),oz 16 (.fa 52 (.t 15)),on (.st 1 (.t 16) (.t 14))]) (.seq (.seq (rg false [oz 17 (.mv (.t 6)),oz 18 (.bin .eql (.t 17) (.k (.i .i64 0))),oz 19 (.mv (.t 18)),⟨some 20,some (19,true), .mv (.t 0)⟩,⟨some 21,some (19,true), .nilc (.t 20)⟩,⟨some 22,some (19,true), .fa 52 (.t 21)⟩,⟨some 23,some (19,true), .ld false 1 (.t 22)⟩,⟨some 24,some (19,true), .call GJ [(.t 23)]⟩,⟨some 25,some (19,true), .un .not (.t 24)⟩,oz 26 (.pick (.t 19) (.t 25) (.k (.b false)))]) (.cond (.t 26) (rg false [oz 6 (.mv (.k (.i .i64 6)))]) .skip)) (.seq (rg false [oz 27 (.mv (.t 6)),oz 4 (.mv (.t 27))]) .ret)))))⟩
noncomputable def J1:D7:=⟨false,2,40,[.tmp 4, .tmp 5],(.seq (rg false [oz 4 (.mv (.k (.i .u64 0))),oz 5 (.mv (.k (.i .i64 0)))]) (.seq (.seq (rg false [oz 8 (.mv (.t 0)),oz 9 (.bin .eql (.t 8) (.k (.s []))),oz 10 (.mv (.t 9)),⟨some 11,some (10,false), .mv (.t 0)⟩,⟨some 12,some (10,false), .call EH [(.t 11)]⟩,⟨some 13,some (10,false), .mv (.t 0)⟩,⟨some 14,some (10,false), .lens (.t 13)⟩,⟨some 15,some (10,false), .bin .lss (.t 12) (.t 14)⟩,oz 16 (.pick (.t 10) (.k (.b true)) (.t 15)),oz 17 (.mv (.t 16)),⟨some 18,some (17,false), .mv (.t 0)⟩,⟨some 19,some (17,false), .lens (.t 18)⟩,⟨some 20,some (17,false), .bin .gtr (.t 19) (.k (.i .i64 1))⟩,⟨some 21,some (17,false), .mv (.t 20)⟩,⟨some 22,some (21,true), .mv (.t 0)⟩,⟨some 23,some (21,true), .ixs (.t 22) (.k (.i .i64 0))⟩,⟨some 24,some (21,true), .bin .eql (.t 23) (.k (.i .u8 48))⟩,⟨some 25,some (17,false), .pick (.t 21) (.t 24) (.k (.b false))⟩,oz 26 (.pick (.t 17) (.k (.b true)) (.t 25))]) (.cond (.t 26) (.seq (rg false [oz 4 (.mv (.k (.i .u64 0))),oz 5 (.mv (.k (.i .i64 5)))]) .ret) .skip)) (.seq (rg false [oz 28 (.mv (.t 0)),oz 29 (.call FH [(.t 28),(.k (.i .i64 10)),(.k (.i .i64 64))]),oz 27 (.mv (.t 29)),oz 30 (.ext (.t 27) 0),oz 31 (.ext (.t 27) 1),oz 6 (.mv (.t 30)),oz 7 (.mv (.t 31))]) (.seq (.seq (rg false [oz 32 (.mv (.t 7)),oz 33 (.isni true (.t 32)),oz 34 (.mv (.t 33)),⟨some 35,some (34,false), .mv (.t 6)⟩,⟨some 36,some (34,false), .mv (.t 1)⟩,⟨some 37,some (34,false), .bin .gtr (.t 35) (.t 36)⟩,oz 38 (.pick (.t 34) (.k (.b true)) (.t 37))])
 (.cond (.t 38) (.seq (rg false [oz 4 (.mv (.k (.i .u64 0))),oz 5 (.mv (.k (.i .i64 6)))]) .ret) .skip)) (.seq (rg false [oz 39 (.mv (.t 6)),oz 4 (.mv (.t 39)),oz 5 (.mv (.k (.i .i64 0)))]) .ret)))))⟩
noncomputable def Mw:D7:=⟨false,1,9,[.tmp 2],(.seq (rg false [oz 2 (.mv (.k (.b false)))]) (.seq (rg false [oz 3 (.mv (.t 0)),oz 4 (.bin .geq (.t 3) (.k (.i .i64 1))),oz 5 (.mv (.t 4)),⟨some 6,some (5,true), .mv (.t 0)⟩,⟨some 7,some (5,true), .bin .leq (.t 6) (.k (.i .i64 20))⟩,oz 8 (.pick (.t 5) (.t 7) (.k (.b false))),oz 2 (.mv (.t 8))]) .ret))⟩
noncomputable def MM:D7:=⟨true,1,13,[.tmp 2],(.seq (rg false [oz 2 (.mv (.k (.b false)))]) (.seq (rg false [oz 4 (.mv (.t 0)),oz 5 (.nilc (.t 4)),oz 6 (.fa 52 (.t 5)),oz 7 (.ld false 1 (.t 6)),oz 8 (.call GJ [(.t 7)]),oz 3 (.mv (.t 8))]) (.seq (rg false [oz 9 (.mv (.t 0)),oz 10 (.nilc (.t 9)),oz 11 (.fa 52 (.t 10)),on (.st 1 (.t 11) (.k (.i .i64 0)))]) (.seq (rg false [oz 12 (.mv (.t 3)),oz 2 (.mv (.t 12))]) .ret))))⟩
noncomputable def EB:D7:=⟨false,1,20,[],(.seq (rg false [oz 2 (.mv (.t 0)),oz 3 (.nilc (.t 2)),oz 4 (.fa 0 (.t 3)),oz 5 (.ld false 1 (.t 4)),oz 6 (.eq false .p (.t 5) (.k (.nilp)))]) (.cond (.t 6) (rg false [oz 7 (.mv (.t 0)),oz 8 (.mv (.t 0)),oz 9 (.cvp (.t 8)),oz 10 (.call FZ [(.t 9)]),oz 11 (.cvu 107 2 (.t 10)),oz 12 (.nilc (.t 7)),oz 13 (.fa 0 (.t 12)),on (.st 1 (.t 13) (.t 11))]) (.seq (rg false [oz 14 (.mv (.t 0)),oz 15 (.nilc (.t 14)),oz 16 (.fa 0 (.t 15)),oz 17 (.ld false 1 (.t 16)),oz 18 (.mv (.t 0)),oz 19 (.eqp true (.t 17) (.t 18))]) (.cond (.t 19) .stop .skip))))⟩
noncomputable def Gg:D7:=⟨false,2,8,[.tmp 4],(.seq (rg false [oz 4 (.mv (.k (.i .i64 0)))]) (.seq (rg false [oz 5 (.mv (.t 0)),oz 6 (.mv (.t 1)),oz 7 (.call BG [(.t 5),(.t 6)]),oz 4 (.mv (.t 7))]) .ret))⟩
noncomputable def Yr:AC:=(.seq (.seq (rg false [oz 9 (.mv (.t 6)),oz 10 (.bin .lss (.t 9) (.k (.i .i64 8)))]) (.cond (.t 10) .skip (.exit 0))) (.seq (.blk 1 (.seq (rg false [oz 13 (.ld true 8 (.t 3)),oz 14 (.mv (.t 6)),oz 15 (.call IB [(.t 13),(.t 14)]),oz 16 (.mv (.t 5)),oz 17 (.bin .gtr (.t 15) (.t 16))]) (.cond (.t 17) (.seq (rg false [oz 18 (.mv (.t 6)),oz 4 (.mv (.t 18))]) (rg false [oz 19 (.ld true 8 (.t 3)),oz 20 (.mv (.t 6)),oz 21 (.call IB [(.t 19),(.t 20)]),oz 5 (.mv (.t 21))])) .skip))) (rg false [oz 11 (.mv (.t 6)),oz 12 (.bin .add (.t 11) (.k (.i .i64 1))),oz 6 (.mv (.t 12))])))
noncomputable def Od:D7:=⟨false,1,36,[.tmp 2],(.seq (rg false [oz 1 (.box 23 16 (.t 0)),oz 2 (.mv (.k (.s [])))]) (.seq (rg false [oz 7 (.ld true 16 (.t 1)),oz 8 (.call Hn [(.t 7)]),oz 3 (.alloc 185 (T.arr 8 (T.int .i64)).zc),on (.st 8 (.t 3) (.t 8))]) (.seq (rg false [oz 4 (.mv (.k (.i .i64 0)))]) (.seq (rg false [oz 5 (.mv (.k (.i .i64 0)))]) (.seq (.seq (rg false [oz 6 (.mv (.k (.i .i64 0)))]) (.blk 0 (.loop [3,4,5,6] Yr))) (.seq (.seq (rg false [oz 22 (.mv (.t 5)),oz 23 (.bin .lss (.t 22) (.k (.i .i64 2)))]) (.cond (.t 23) (.seq (rg false [oz 24 (.ld true 8 (.t 3)),oz 25 (.call HL [(.t 24),(.k (.i .i64 0)),(.k (.i .i64 8))]),oz 2 (.mv (.t 25))]) .ret) .skip)) (.seq (rg true [oz 26 (.ld true 8 (.t 3)),oz 27 (.mv (.t 4)),oz 28 (.call HL [(.t 26),(.k (.i .i64 0)),(.t 27)]),oz 29 (.bin .add (.t 28) (.k (.s [58,58]))),oz 30 (.ld true 8 (.t 3)),oz 31 (.mv (.t 4)),oz 32 (.mv (.t 5)),oz 33 (.bin .add (.t 31) (.t 32)),oz 34 (.call HL [(.t 30),(.t 33),(.k (.i .i64 8))]),oz 35 (.bin .add (.t 29) (.t 34)),oz 2 (.mv (.t 35))]) .ret)))))))⟩
noncomputable def Ys:AC:=(.seq (.seq (rg false [oz 9 (.mv (.t 4)),oz 10 (.bin .lss (.t 9) (.k (.i .i64 4)))]) (.cond (.t 10) .skip (.exit 0))) (.seq (.blk 1 (rg false [oz 13 (.mv (.t 3)),oz 14 (.bin .add (.t 13) (.k (.s [46]))),oz 15 (.mv (.t 4)),oz 16 (.iaa 4 1 (.t 1) (.t 15)),oz 17 (.ld false 1 (.t 16)),oz 18 (.cvi .u64 (.t 17)),oz 19 (.call Ef [(.t 18)]),oz 20 (.bin .add (.t 14) (.t 19)),oz 3 (.mv (.t 20))])) (rg false [oz 11 (.mv (.t 4)),oz 12 (.bin .add (.t 11) (.k (.i .i64 1))),oz 4 (.mv (.t 12))])))
noncomputable def Oe:D7:=⟨false,1,22,[.tmp 2],(.seq (rg false [oz 1 (.box 156 4 (.t 0)),oz 2 (.mv (.k (.s [])))]) (.seq (rg false [oz 5 (.iaa 4 1 (.t 1) (.k (.i .i64 0))),oz 6 (.ld false 1 (.t 5)),oz 7 (.cvi .u64 (.t 6)),oz 8 (.call Ef [(.t 7)]),oz 3 (.mv (.t 8))]) (.seq (.seq (rg false [oz 4 (.mv (.k (.i .i64 1)))]) (.blk 0 (.loop [1,3,4] Ys))) (.seq (rg false [oz 21 (.mv (.t 3)),oz 2 (.mv (.t 21))]) .ret))))⟩
noncomputable def Lv:D7:=⟨false,1,20,[.tmp 2],(.seq (rg false [oz 1 (.box 25 17 (.t 0)),oz 2 (.mv (.k (.b false)))]) (.seq (rg true [oz 3 (.fa 0 (.t 1)),oz 4 (.ld false 1 (.t 3)),oz 5 (.bin .eql (.t 4) (.k (.i .i64 6))),oz 6 (.mv (.t 5)),⟨some 7,some (6,false), .fa 0 (.t 1)⟩,⟨some 8,some (6,false), .ld false 1 (.t 7)⟩,⟨some 9,some (6,false), .bin .eql (.t 8) (.k (.i .i64 4))⟩,⟨some 10,some (6,false), .mv (.t 9)⟩,⟨some 11,some (10,true), .ld true 17 (.t 1)⟩,⟨some 12,some (10,true), .fa 1 (.t 1)⟩,⟨some 13,some (10,true), .sla 16 1 (.t 12) none (some (.k (.i .i64 4)))⟩,⟨some 14,some (10,true), .s2a 4 1 (.t 13)⟩,⟨some 15,some (10,true), .ld true 4 (.t 14)⟩,⟨some 16,some (10,true), .call GN [(.t 15)]⟩,⟨some 17,some (10,true), .eq false (.agg (kk [(1, .i .i64),(16, .i .u8)])) (.t 11) (.t 16)⟩,⟨some 18,some (6,false), .pick (.t 10) (.t 17) (.k (.b false))⟩,oz 19 (.pick (.t 6) (.k (.b true)) (.t 18)),oz 2 (.mv (.t 19))]) .ret))⟩
noncomputable def GT:D7:=⟨false,2,9,[.tmp 4],(.seq (rg false [oz 4 (.mv (.k (.b false)))]) (.seq (rg false [oz 5 (.mv (.t 0)),oz 6 (.mv (.t 1)),oz 7 (.call Fe [(.t 5),(.t 6)]),oz 8 (.bin .geq (.t 7) (.k (.i .i64 0))),oz 4 (.mv (.t 8))]) .ret))⟩
noncomputable def EC:D7:=⟨false,2,17,[.tmp 4],(.seq (rg false [oz 4 (.mv (.k (.nili)))]) (.seq (rg false [oz 5 (.mv (.t 0)),oz 6 (.call BE [(.t 5)])]) (.seq (rg false [oz 7 (.mv (.t 0)),oz 8 (.mv (.t 0)),oz 9 (.nilc (.t 8)),oz 10 (.fa 1 (.t 9)),oz 11 (.ld false 1 (.t 10)),oz 12 (.mv (.t 1)),oz 13 (.bll 1 (List.replicate 1 T.u8.zc) [(0,(.t 12))]),oz 14 (.app 5 1 1 (.t 11) (.t 13)),oz 15 (.nilc (.t 7)),oz 16 (.fa 1 (.t 15)),on (.st 1 (.t 16) (.t 14))]) (.seq (rg false [oz 4 (.mv (.k (.nili)))]) .ret))))⟩
noncomputable def Sp:AC:=(.seq (.seq (rg false [oz 14 (.mv (.t 5)),oz 15 (.mv (.t 0)),oz 16 (.lens (.t 15)),oz 17 (.bin .lss (.t 14) (.t 16))]) (.cond (.t 17) .skip (.exit 0))) (.seq (.blk 1 (.seq (rg false [oz 21 (.mv (.t 0)),oz 22 (.mv (.t 5)),oz 23 (.ixs (.t 21) (.t 22)),oz 24 (.call E7 [(.t 23)]),oz 20 (.mv (.t 24)),oz 25 (.ext (.t 20) 0),oz 26 (.ext (.t 20) 1),oz 6 (.mv (.t 25)),oz 7 (.mv (.t 26))]) (.seq (rg false [oz 28 (.mv (.t 0)),oz 29 (.mv (.t 5)),oz 30 (.bin .add (.t 29) (.k (.i .i64 1))),oz 31 (.ixs (.t 28) (.t 30)),oz 32 (.call E7 [(.t 31)]),oz 27 (.mv (.t 32)),oz 33 (.ext (.t 27) 0),oz 34 (.ext (.t 27) 1),oz 8 (.mv (.t 33)),oz 9 (.mv (.t 34))]) (.seq (.seq (rg false [oz 35 (.mv (.t 7)),oz 36 (.un .not (.t 35)),oz 37 (.mv (.t 36)),⟨some 38,some (37,false), .mv (.t 9)⟩,⟨some 39,some (37,false), .un .not (.t 38)⟩,oz 40 (.pick (.t 37) (.k (.b true)) (.t 39))]) (.cond (.t 40) (.seq (rg false [oz 2 (.mv (.k (.nils))),oz 3 (.mv (.k (.i .i64 5)))]) .ret) .skip)) (rg false [oz 41 (.mv (.t 4)),oz 42 (.mv (.t 6)),oz 43 (.bin .shl (.t 42) (.k (.i .u64 4))),oz 44 (.mv (.t 8)),oz 45 (.bin .or (.t 43) (.t 44)),oz 46 (.cvi .u8 (.t 45)),oz 47 (.bll 1 (List.replicate 1 T.u8.zc) [(0,(.t 46))]),oz 48 (.app 5 1 1 (.t 41) (.t 47)),oz 4 (.mv (.t 48))]))))) (rg false [oz 18 (.mv (.t 5)),oz 19 (.bin .add (.t 18) (.k (.i .i64 2))),oz 5 (.mv (.t 19))])))
noncomputable def Jx:D7:=⟨false,1,50,[.tmp 2, .tmp 3],(.seq (rg false [oz 2 (.mv (.k (.nils))),oz 3 (.mv (.k (.i .i64 0)))]) (.seq (.seq (rg false [oz 10 (.mv (.t 0)),oz 11 (.lens (.t 10)),oz 12 (.bin .rem (.t 11) (.k (.i .i64 2))),oz 13 (.bin .neq (.t 12) (.k (.i .i64 0)))]) (.cond (.t 13) (.seq (rg false [oz 2 (.mv (.k (.nils))),oz 3 (.mv (.k (.i .i64 5)))]) .ret) .skip)) (.seq (rg false [oz 4 (.mv (.k (.nils)))]) (.seq (.seq (rg false [oz 5 (.mv (.k (.i .i64 0)))]) (.blk 0 (.loop [0,4,5] Sp))) (.seq (rg false [oz 49 (.mv (.t 4)),oz 2 (.mv (.t 49)),oz 3 (.mv (.k (.i .i64 0)))]) .ret)))))⟩
noncomputable def Lu:D7:=⟨false,1,11,[.tmp 2],(.seq (rg false [oz 1 (.box 25 17 (.t 0)),oz 2 (.mv (.k (.i .i64 0)))]) (.seq (.blk 0 (.seq (rg false [oz 4 (.ld true 17 (.t 1)),oz 5 (.call EZ [(.t 4)]),oz 6 (.un .not (.t 5)),oz 3 (.mv (.t 6))]) (.cond (.t 3) (.seq (rg false [oz 2 (.mv (.k (.i .i64 0)))]) .ret) (.seq (rg false [oz 8 (.fa 0 (.t 1)),oz 9 (.ld false 1 (.t 8)),oz 10 (.bin .eql (.t 9) (.k (.i .i64 4))),oz 7 (.mv (.t 10))]) (.cond (.t 7) (.seq (rg false [oz 2 (.mv (.k (.i .i64 32)))]) .ret) .skip))))) (.seq (rg false [oz 2 (.mv (.k (.i .i64 128)))]) .ret)))⟩
noncomputable def M7:D7:=⟨false,1,19,[.tmp 2],(.seq (rg false [oz 1 (.box 25 17 (.t 0)),oz 2 (.mv (.k (.s [])))]) (.seq (.blk 0 (.seq (rg false [oz 4 (.ld true 17 (.t 1)),oz 5 (.call EZ [(.t 4)]),oz 6 (.un .not (.t 5)),oz 3 (.mv (.t 6))]) (.cond (.t 3) (.seq (rg false [oz 2 (.mv (.k (.s [])))]) .ret) (.seq (rg false [oz 8 (.fa 0 (.t 1)),oz 9 (.ld false 1 (.t 8)),oz 10 (.bin .eql (.t 9) (.k (.i .i64 4))),oz 7 (.mv (.t 10))]) (.cond (.t 7) (.seq (rg false [oz 11 (.fa 1 (.t 1)),oz 12 (.sla 16 1 (.t 11) none (some (.k (.i .i64 4)))),oz 13 (.s2a 4 1 (.t 12)),oz 14 (.ld true 4 (.t 13)),oz 15 (.call Ic [(.t 14)]),oz 2 (.mv (.t 15))]) .ret) .skip))))) (.seq (rg false [oz 16 (.fa 1 (.t 1)),oz 17 (.ld true 16 (.t 16)),oz 18 (.call Ho [(.t 17)]),oz 2 (.mv (.t 18))]) .ret)))⟩
noncomputable def H7:D7:=⟨false,1,35,[.tmp 2, .tmp 3, .tmp 4],(.seq (rg false [oz 2 (.mv (.k (.s []))),oz 3 (.mv (.k (.s []))),oz 4 (.mv (.k (.b false)))]) (.seq (.seq (rg false [oz 11 (.mv (.t 0)),oz 12 (.call DC [(.t 11),(.k (.s [91]))]),oz 10 (.mv (.t 12)),oz 13 (.ext (.t 10) 0),oz 14 (.ext (.t 10) 1),oz 5 (.mv (.t 13)),oz 6 (.mv (.t 14))]) (.seq (rg false [oz 15 (.mv (.t 6))]) (.cond (.t 15) (.seq (rg false [oz 17 (.mv (.t 5)),oz 18 (.call Gv [(.t 17),(.k (.s [93,58]))]),oz 16 (.mv (.t 18)),oz 19 (.ext (.t 16) 0),oz 20 (.ext (.t 16) 1),oz 21 (.ext (.t 16) 2),oz 7 (.mv (.t 19)),oz 8 (.mv (.t 20)),oz 9 (.mv (.t 21))]) (.seq (rg false [oz 22 (.mv (.t 7)),oz 23 (.mv (.t 8)),oz 24 (.mv (.t 9)),oz 25 (.mv (.t 24)),⟨some 26,some (25,true), .mv (.t 7)⟩,⟨some 27,some (25,true), .call Ea [(.t 26),(.k (.s [58]))]⟩,oz 28 (.pick (.t 25) (.t 27) (.k (.b false))),oz 2 (.mv (.t 22)),oz 3 (.mv (.t 23)),oz 4 (.mv (.t 28))]) .ret)) .skip))) (.seq (rg false [oz 29 (.mv (.t 0)),oz 30 (.ixs (.k (.s [58])) (.k (.i .i64 0))),oz 31 (.call EV [(.t 29),(.t 30)]),oz 32 (.ext (.t 31) 0),oz 33 (.ext (.t 31) 1),oz 34 (.ext (.t 31) 2),oz 2 (.mv (.t 32)),oz 3 (.mv (.t 33)),oz 4 (.mv (.t 34))]) .ret)))⟩
noncomputable def Lw:D7:=⟨false,1,40,[.cell true 17 2, .tmp 3],(.seq (rg false [oz 2 (.alloc 25 A7.zc),oz 3 (.mv (.k (.i .i64 0)))]) (.seq (.seq (rg false [oz 12 (.mv (.t 0)),oz 13 (.call EV [(.t 12),(.k (.i .u8 58))]),oz 11 (.mv (.t 13)),oz 14 (.ext (.t 11) 0),oz 15 (.ext (.t 11) 1),oz 16 (.ext (.t 11) 2),oz 4 (.mv (.t 14)),oz 5 (.mv (.t 15)),oz 6 (.mv (.t 16))]) (.seq (rg false [oz 17 (.mv (.t 6))]) (.cond (.t 17) (.seq (rg false [oz 19 (.mv (.t 0)),oz 20 (.call Gy [(.t 19)]),oz 18 (.mv (.t 20)),oz 21 (.ext (.t 18) 0),oz 22 (.ext (.t 18) 1),oz 7 (.alloc 23 (T.arr 16 T.u8).zc),on (.st 16 (.t 7) (.t 21)),oz 8 (.mv (.t 22))]) (.seq (.seq (rg false [oz 23 (.mv (.t 8)),oz 24 (.bin .neq (.t 23) (.k (.i .i64 0)))]) (.cond (.t 24) (.seq (rg false [oz 25 (.bld A7.zc []),oz 26 (.mv (.t 8)),on (.st 17 (.t 2) (.t 25)),oz 3 (.mv (.t 26))]) .ret) .skip)) (.seq (rg false [oz 27 (.ld true 16 (.t 7)),oz 28 (.call IS [(.t 27)]),on (.st 17 (.t 2) (.t 28)),oz 3 (.mv (.k (.i .i64 0)))]) .ret))) .skip))) (.seq (rg false [oz 30 (.mv (.t 0)),oz 31 (.call FY [(.t 30)]),oz 29 (.mv (.t 31)),oz 32 (.ext (.t 29) 0),oz 33 (.ext (.t 29) 1),oz 9 (.alloc 156 (T.arr 4 T.u8).zc),on (.st 4 (.t 9) (.t 32)),oz 10 (.mv (.t 33))]) (.seq (.seq (rg false [oz 34 (.mv (.t 10)),oz 35 (.bin .neq (.t 34) (.k (.i .i64 0)))]) (.cond (.t 35) (.seq (rg false [oz 36 (.bld A7.zc []),oz 37 (.mv (.t 10)),on (.st 17 (.t 2) (.t 36)),oz 3 (.mv (.t 37))]) .ret) .skip)) (.seq (rg false [oz 38 (.ld true 4 (.t 9)),oz 39 (.call GN [(.t 38)]),on (.st 17 (.t 2) (.t 39)),oz 3 (.mv (.k (.i .i64 0)))])
 .ret)))))⟩
noncomputable def PV:D7:=⟨false,1,17,[.cell true 32 2, .tmp 3],(.seq (rg false [oz 2 (.alloc 29 (T.arr 32 T.u8).zc),oz 3 (.mv (.k (.i .i64 0)))]) (.seq (.blk 0 (.seq (rg false [oz 5 (.mv (.t 0)),oz 6 (.len (.t 5)),oz 7 (.bin .lss (.t 6) (.k (.i .i64 32))),oz 4 (.mv (.t 7))]) (.cond (.t 4) (.seq (rg false [oz 8 (.bld (T.arr 32 T.u8).zc []),on (.st 32 (.t 2) (.t 8)),oz 3 (.mv (.k (.i .i64 3)))]) .ret) (.seq (rg false [oz 10 (.mv (.t 0)),oz 11 (.len (.t 10)),oz 12 (.bin .gtr (.t 11) (.k (.i .i64 32))),oz 9 (.mv (.t 12))]) (.cond (.t 9) (.seq (rg false [oz 13 (.bld (T.arr 32 T.u8).zc []),on (.st 32 (.t 2) (.t 13)),oz 3 (.mv (.k (.i .i64 4)))]) .ret) .skip))))) (.seq (rg false [oz 14 (.mv (.t 0)),oz 15 (.s2a 32 1 (.t 14)),oz 16 (.ld true 32 (.t 15)),on (.st 32 (.t 2) (.t 16)),oz 3 (.mv (.k (.i .i64 0)))]) .ret)))⟩
noncomputable def FL:D7:=⟨false,2,8,[.tmp 4],(.seq (rg false [oz 4 (.mv (.k (.s [])))]) (.seq (rg false [oz 5 (.mv (.t 0)),oz 6 (.mv (.t 1)),oz 7 (.call Ca [(.t 5),(.t 6)]),oz 4 (.mv (.t 7))]) .ret))⟩
noncomputable def Qo:AC:=(.seq (rg false [oz 7 (.nxt (.t 6)),oz 8 (.ext (.t 7) 0)]) (.seq (.cond (.t 8) .skip (.exit 0)) (.blk 1 (.seq (rg false [oz 9 (.ext (.t 7) 1),oz 10 (.ext (.t 7) 2),oz 3 (.mv (.t 9)),oz 4 (.mv (.t 10))]) (.seq (rg false [oz 11 (.mv (.t 4)),oz 12 (.bin .lss (.t 11) (.k (.i .i32 48))),oz 13 (.mv (.t 12)),⟨some 14,some (13,false), .mv (.t 4)⟩,⟨some 15,some (13,false), .bin .gtr (.t 14) (.k (.i .i32 57))⟩,oz 16 (.pick (.t 13) (.k (.b true)) (.t 15))]) (.cond (.t 16) (.seq (rg false [oz 17 (.mv (.t 3)),oz 2 (.mv (.t 17))]) .ret) .skip))))))
noncomputable def Ii:D7:=⟨false,1,20,[.tmp 2],(.seq (rg false [oz 2 (.mv (.k (.i .i64 0)))]) (.seq (.seq (rg false [oz 5 (.mv (.t 0)),oz 6 (.rng (.t 5))]) (.blk 0 (.loop [0,6] Qo))) (.seq (rg false [oz 18 (.mv (.t 0)),oz 19 (.lens (.t 18)),oz 2 (.mv (.t 19))]) .ret)))⟩
noncomputable def CO:D7:=⟨false,2,8,[.tmp 4],(.seq (rg false [oz 4 (.mv (.k (.i .i64 0)))]) (.seq (rg false [oz 5 (.mv (.t 0)),oz 6 (.mv (.t 1)),oz 7 (.call C5 [(.t 5),(.t 6)]),oz 4 (.mv (.t 7))]) .ret))⟩
noncomputable def UT:AC:=(.seq (.seq (rg false [oz 5 (.mv (.t 4)),oz 6 (.bin .lss (.t 5) (.k (.i .i64 8)))]) (.cond (.t 6) .skip (.exit 0))) (.seq (.blk 1 (.regd [oz 9 (.mv (.t 4)),oz 10 (.mv (.t 4)),oz 11 (.bin .mul (.k (.i .i64 2)) (.t 10)),oz 12 (.iaa 16 1 (.t 1) (.t 11)),oz 13 (.ld false 1 (.t 12)),oz 14 (.cvi .i64 (.t 13)),oz 15 (.bin .mul (.k (.i .i64 256)) (.t 14)),oz 16 (.mv (.t 4)),oz 17 (.bin .mul (.k (.i .i64 2)) (.t 16)),oz 18 (.bin .add (.t 17) (.k (.i .i64 1))),oz 19 (.iaa 16 1 (.t 1) (.t 18)),oz 20 (.ld false 1 (.t 19)),oz 21 (.cvi .i64 (.t 20)),oz 22 (.bin .add (.t 15) (.t 21)),oz 23 (.iaa 8 1 (.t 3) (.t 9)),on (.st 1 (.t 23) (.t 22))] [some (0,0),some (0,0),some (0,0),some (0,0),some (0,0),some (0,0),some (0,0),some (0,0),some (0,0),some (0,0),some (0,0),some (0,0),some (0,0),some (0,0),some (0,0),none])) (rg false [oz 7 (.mv (.t 4)),oz 8 (.bin .add (.t 7) (.k (.i .i64 1))),oz 4 (.mv (.t 8))])))
noncomputable def Lq:D7:=⟨false,1,25,[.cell true 8 2],(.seq (rg false [oz 1 (.box 23 16 (.t 0)),oz 2 (.alloc 185 (T.arr 8 (T.int .i64)).zc)]) (.seq (rg false [oz 3 (.alloc 185 (T.arr 8 (T.int .i64)).zc)]) (.seq (.seq (rg false [oz 4 (.mv (.k (.i .i64 0)))]) (.blk 0 (.loop [1,2,3,4] UT))) (.seq (rg false [oz 24 (.ld true 8 (.t 3)),on (.st 8 (.t 2) (.t 24))]) .ret))))⟩
noncomputable def bR:AC:=(.seq (.seq (rg false [oz 6 (.mv (.t 1)),oz 7 (.mv (.t 5)),oz 8 (.bin .add (.t 6) (.t 7)),oz 9 (.bin .lss (.t 8) (.k (.i .i64 8))),oz 10 (.mv (.t 9)),⟨some 11,some (10,true), .mv (.t 1)⟩,⟨some 12,some (10,true), .mv (.t 5)⟩,⟨some 13,some (10,true), .bin .add (.t 11) (.t 12)⟩,⟨some 14,some (10,true), .iaa 8 1 (.t 2) (.t 13)⟩,⟨some 15,some (10,true), .ld false 1 (.t 14)⟩,⟨some 16,some (10,true), .bin .eql (.t 15) (.k (.i .i64 0))⟩,oz 17 (.pick (.t 10) (.t 16) (.k (.b false)))]) (.cond (.t 17) .skip (.exit 0))) (.blk 1 (rg false [oz 18 (.mv (.t 5)),oz 19 (.bin .add (.t 18) (.k (.i .i64 1))),oz 5 (.mv (.t 19))])))
noncomputable def PT:D7:=⟨false,2,21,[.tmp 4],(.seq (rg false [oz 2 (.box 185 8 (.t 0)),oz 4 (.mv (.k (.i .i64 0)))]) (.seq (rg false [oz 5 (.mv (.k (.i .i64 0)))]) (.seq (.blk 0 (.loop [1,2,5] bR)) (.seq (rg false [oz 20 (.mv (.t 5)),oz 4 (.mv (.t 20))]) .ret))))⟩
noncomputable def bS:AC:=(.seq (.seq (rg false [oz 10 (.mv (.t 8)),oz 11 (.mv (.t 2)),oz 12 (.bin .lss (.t 10) (.t 11))]) (.cond (.t 12) .skip (.exit 0))) (.seq (.blk 1 (.seq (.seq (rg false [oz 15 (.mv (.t 8)),oz 16 (.mv (.t 1)),oz 17 (.bin .gtr (.t 15) (.t 16))]) (.cond (.t 17) (rg false [oz 18 (.mv (.t 7)),oz 19 (.bin .add (.t 18) (.k (.s [58]))),oz 7 (.mv (.t 19))]) .skip)) (rg false [oz 20 (.mv (.t 7)),oz 21 (.mv (.t 8)),oz 22 (.iaa 8 1 (.t 3) (.t 21)),oz 23 (.ld false 1 (.t 22)),oz 24 (.call EU [(.t 23)]),oz 25 (.bin .add (.t 20) (.t 24)),oz 7 (.mv (.t 25))]))) (rg false [oz 13 (.mv (.t 8)),oz 14 (.bin .add (.t 13) (.k (.i .i64 1))),oz 8 (.mv (.t 14))])))
noncomputable def PU:D7:=⟨false,3,27,[.tmp 6],(.seq (rg false [oz 3 (.box 185 8 (.t 0)),oz 6 (.mv (.k (.s [])))]) (.seq (rg false [oz 7 (.mv (.k (.s [])))]) (.seq (.seq (rg false [oz 9 (.mv (.t 1)),oz 8 (.mv (.t 9))]) (.blk 0 (.loop [1,2,3,7,8] bS))) (.seq (rg false [oz 26 (.mv (.t 7)),oz 6 (.mv (.t 26))]) .ret))))⟩
noncomputable def M8:D7:=⟨false,1,10,[.cell true 17 2],(.seq (rg false [oz 1 (.box 156 4 (.t 0)),oz 2 (.alloc 25 A7.zc)]) (.seq (rg false [oz 4 (.bld A7.zc [(0,1,(.k (.i .i64 4)))]),oz 3 (.alloc 25 A7.zc),on (.st 17 (.t 3) (.t 4))]) (.seq (.regd [oz 5 (.fa 1 (.t 3)),oz 6 (.sla 16 1 (.t 5) none none),oz 7 (.sla 4 1 (.t 1) none none),oz 8 (.cpy 1 (.t 6) (.t 7))] [some (0,0),some (0,0),some (0,0),none]) (.seq (rg false [oz 9 (.ld true 17 (.t 3)),on (.st 17 (.t 2) (.t 9))]) .ret))))⟩
noncomputable def Iy:D7:=⟨false,2,8,[.tmp 4],(.seq (rg false [oz 4 (.mv (.k (.i .i64 0)))]) (.seq (rg false [oz 5 (.mv (.t 0)),oz 6 (.mv (.t 1)),oz 7 (.call C7 [(.t 5),(.t 6)]),oz 4 (.mv (.t 7))]) .ret))⟩
noncomputable def Kq:D7:=⟨false,1,11,[.tmp 2, .tmp 3],(.seq (rg false [oz 2 (.mv (.k (.i .u16 0))),oz 3 (.mv (.k (.b false)))]) (.seq (rg false [oz 5 (.mv (.t 0)),oz 6 (.call Db [(.k (.s [48,49,50,51,52,53,54,55,56,57,97,98,99,100,101,102])),(.t 5)]),oz 4 (.mv (.t 6))]) (.seq (rg false [oz 7 (.mv (.t 4)),oz 8 (.cvi .u16 (.t 7)),oz 9 (.mv (.t 4)),oz 10 (.bin .geq (.t 9) (.k (.i .i64 0))),oz 2 (.mv (.t 8)),oz 3 (.mv (.t 10))]) .ret)))⟩
noncomputable def Xi:AC:=(.seq (rg false [oz 8 (.bin .lss (.t 7) (.k (.i .i64 4)))]) (.seq (.cond (.t 8) .skip (.exit 0)) (.seq (.blk 1 (.seq (rg false [oz 9 (.mv (.t 7)),oz 10 (.ixa 4 1 false (.t 6) (.t 7)),oz 4 (.mv (.t 9)),oz 5 (.mv (.t 10))]) (rg false [oz 11 (.mv (.t 4)),oz 12 (.mv (.t 5)),oz 13 (.cvi .u64 (.t 12)),oz 14 (.call Eg [(.t 13)]),oz 15 (.iaa 4 1 (.t 3) (.t 11)),on (.st 1 (.t 15) (.t 14))]))) (rg false [oz 16 (.bin .add (.t 7) (.k (.i .i64 1))),oz 7 (.mv (.t 16))]))))
noncomputable def M3:D7:=⟨false,1,19,[.tmp 2],(.seq (rg false [oz 1 (.box 156 4 (.t 0)),oz 2 (.mv (.k (.s [])))]) (.seq (rg false [oz 3 (.alloc 228 (T.arr 4 Ak).zc)]) (.seq (.seq (rg false [oz 6 (.ld true 4 (.t 1)),oz 7 (.mv (.k (.i .i64 0)))]) (.blk 0 (.loop [3,6,7] Xi))) (.seq (rg false [oz 17 (.sla 4 1 (.t 3) none none),oz 18 (.call Ee [(.t 17),(.k (.s [46]))]),oz 2 (.mv (.t 18))]) .ret))))⟩
noncomputable def Lt:D7:=⟨false,1,27,[.tmp 2],(.seq (rg false [oz 1 (.box 23 16 (.t 0)),oz 2 (.mv (.k (.s [])))]) (.seq (rg false [oz 6 (.ld true 16 (.t 1)),oz 7 (.call F7 [(.t 6)]),oz 3 (.alloc 229 (T.arr 8 T.u16).zc),on (.st 8 (.t 3) (.t 7))]) (.seq (rg false [oz 9 (.ld true 8 (.t 3)),oz 10 (.call Fh [(.t 9)]),oz 8 (.mv (.t 10)),oz 11 (.ext (.t 8) 0),oz 12 (.ext (.t 8) 1),oz 4 (.mv (.t 11)),oz 5 (.mv (.t 12))]) (.seq (.seq (rg false [oz 13 (.mv (.t 5)),oz 14 (.bin .lss (.t 13) (.k (.i .i64 2)))]) (.cond (.t 14) (.seq (rg false [oz 15 (.sla 8 1 (.t 3) none none),oz 16 (.call FJ [(.t 15)]),oz 2 (.mv (.t 16))]) .ret) .skip)) (.seq (rg true [oz 17 (.mv (.t 4)),oz 18 (.sla 8 1 (.t 3) none (some (.t 17))),oz 19 (.call FJ [(.t 18)]),oz 20 (.bin .add (.t 19) (.k (.s [58,58]))),oz 21 (.mv (.t 4)),oz 22 (.mv (.t 5)),oz 23 (.bin .add (.t 21) (.t 22)),oz 24 (.sla 8 1 (.t 3) (some (.t 23)) none),oz 25 (.call FJ [(.t 24)]),oz 26 (.bin .add (.t 20) (.t 25)),oz 2 (.mv (.t 26))]) .ret)))))⟩
noncomputable def Gi:D7:=⟨false,2,11,[.tmp 4, .tmp 5],(.seq (rg false [oz 4 (.mv (.k (.s []))),oz 5 (.mv (.k (.b false)))]) (.seq (rg false [oz 6 (.mv (.t 0)),oz 7 (.mv (.t 1)),oz 8 (.call BH [(.t 6),(.t 7)]),oz 9 (.ext (.t 8) 0),oz 10 (.ext (.t 8) 1),oz 4 (.mv (.t 9)),oz 5 (.mv (.t 10))]) .ret))⟩
noncomputable def Ko:D7:=⟨false,2,13,[.tmp 4, .tmp 5, .tmp 6],(.seq (rg false [oz 4 (.mv (.k (.s []))),oz 5 (.mv (.k (.s []))),oz 6 (.mv (.k (.b false)))]) (.seq (rg false [oz 7 (.mv (.t 0)),oz 8 (.mv (.t 1)),oz 9 (.call Cw [(.t 7),(.t 8)]),oz 10 (.ext (.t 9) 0),oz 11 (.ext (.t 9) 1),oz 12 (.ext (.t 9) 2),oz 4 (.mv (.t 10)),oz 5 (.mv (.t 11)),oz 6 (.mv (.t 12))]) .ret))⟩
noncomputable def T3:AC:=(.seq (rg false [oz 27 (.bin .lss (.t 26) (.k (.i .i64 8)))]) (.seq (.cond (.t 27) .skip (.exit 0)) (.seq (.blk 1 (.seq (rg false [oz 28 (.mv (.t 26)),oz 29 (.ixa 8 1 false (.t 25) (.t 26)),oz 8 (.mv (.t 28)),oz 9 (.mv (.t 29))]) (rg false [oz 30 (.mv (.t 8)),oz 31 (.bin .mul (.k (.i .i64 2)) (.t 30)),oz 32 (.mv (.t 8)),oz 33 (.bin .mul (.k (.i .i64 2)) (.t 32)),oz 34 (.bin .add (.t 33) (.k (.i .i64 1))),oz 35 (.mv (.t 9)),oz 36 (.bin .shr (.t 35) (.k (.i .u64 8))),oz 37 (.cvi .u8 (.t 36)),oz 38 (.mv (.t 9)),oz 39 (.cvi .u8 (.t 38)),oz 40 (.iaa 16 1 (.t 7) (.t 31)),on (.st 1 (.t 40) (.t 37)),oz 41 (.iaa 16 1 (.t 7) (.t 34)),on (.st 1 (.t 41) (.t 39))]))) (rg false [oz 42 (.bin .add (.t 26) (.k (.i .i64 1))),oz 26 (.mv (.t 42))]))))
noncomputable def Kt:D7:=⟨false,1,44,[.cell true 16 2, .tmp 3],(.seq (rg false [oz 2 (.alloc 23 (T.arr 16 T.u8).zc),oz 3 (.mv (.k (.i .i64 0)))]) (.seq (rg false [oz 10 (.bld A9.zc [(9,1,(.k (.i .i64 (-1))))]),oz 11 (.box 237 10 (.t 10)),oz 4 (.mv (.t 11))]) (.seq (.seq (rg false [oz 12 (.mv (.t 4)),oz 13 (.mv (.t 0)),oz 14 (.call DU [(.t 12),(.t 13)]),oz 15 (.un .not (.t 14))]) (.cond (.t 15) (.seq (rg false [oz 16 (.bld (T.arr 16 T.u8).zc []),on (.st 16 (.t 2) (.t 16)),oz 3 (.mv (.k (.i .i64 5)))]) .ret) .skip)) (.seq (rg false [oz 18 (.mv (.t 4)),oz 19 (.call Dw [(.t 18)]),oz 17 (.mv (.t 19)),oz 20 (.ext (.t 17) 0),oz 21 (.ext (.t 17) 1),oz 5 (.alloc 229 (T.arr 8 T.u16).zc),on (.st 8 (.t 5) (.t 20)),oz 6 (.mv (.t 21))]) (.seq (.seq (rg false [oz 22 (.mv (.t 6)),oz 23 (.un .not (.t 22))]) (.cond (.t 23) (.seq (rg false [oz 24 (.bld (T.arr 16 T.u8).zc []),on (.st 16 (.t 2) (.t 24)),oz 3 (.mv (.k (.i .i64 5)))]) .ret) .skip)) (.seq (rg false [oz 7 (.alloc 23 (T.arr 16 T.u8).zc)]) (.seq (.seq (rg false [oz 25 (.ld true 8 (.t 5)),oz 26 (.mv (.k (.i .i64 0)))]) (.blk 0 (.loop [2,7,25,26] T3))) (.seq (rg false [oz 43 (.ld true 16 (.t 7)),on (.st 16 (.t 2) (.t 43)),oz 3 (.mv (.k (.i .i64 0)))]) .ret))))))))⟩
noncomputable def Oj:D7:=⟨false,1,5,[.cell true 17 2],(.seq (rg false [oz 1 (.box 23 16 (.t 0)),oz 2 (.alloc 25 A7.zc)]) (.seq (rg false [oz 3 (.ld true 16 (.t 1)),oz 4 (.bld A7.zc [(0,1,(.k (.i .i64 6))),(1,16,(.t 3))]),on (.st 17 (.t 2) (.t 4))]) .ret))⟩
noncomputable def UV:AC:=(.seq (rg false [oz 19 (.bin .lss (.t 18) (.t 17))]) (.seq (.cond (.t 19) .skip (.exit 0)) (.seq (.blk 1 (.seq (rg false [oz 20 (.mv (.t 18)),oz 21 (.ias 1 (.t 16) (.t 18)),oz 22 (.ld false 1 (.t 21)),oz 6 (.mv (.t 20)),oz 7 (.mv (.t 22))]) (.seq (rg false [oz 24 (.mv (.t 7)),oz 25 (.call Eh [(.t 24),(.k (.i .u64 255))]),oz 23 (.mv (.t 25)),oz 26 (.ext (.t 23) 0),oz 27 (.ext (.t 23) 1),oz 8 (.mv (.t 26)),oz 9 (.mv (.t 27))]) (.seq (.seq (rg false [oz 28 (.mv (.t 9)),oz 29 (.bin .neq (.t 28) (.k (.i .i64 0)))]) (.cond (.t 29) (.seq (rg false [oz 30 (.bld (T.arr 4 T.u8).zc []),oz 31 (.mv (.t 9)),on (.st 4 (.t 2) (.t 30)),oz 3 (.mv (.t 31))]) .ret) .skip)) (rg false [oz 32 (.mv (.t 6)),oz 33 (.mv (.t 8)),oz 34 (.cvi .u8 (.t 33)),oz 35 (.iaa 4 1 (.t 5) (.t 32)),on (.st 1 (.t 35) (.t 34))]))))) (rg false [oz 36 (.bin .add (.t 18) (.k (.i .i64 1))),oz 18 (.mv (.t 36))]))))
noncomputable def Ls:D7:=⟨false,1,38,[.cell true 4 2, .tmp 3],(.seq (rg false [oz 2 (.alloc 156 (T.arr 4 T.u8).zc),oz 3 (.mv (.k (.i .i64 0)))]) (.seq (rg false [oz 10 (.mv (.t 0)),oz 11 (.call Fm [(.t 10),(.k (.i .u8 46))]),oz 4 (.mv (.t 11))]) (.seq (rg false [oz 5 (.alloc 156 (T.arr 4 T.u8).zc)]) (.seq (.seq (rg false [oz 12 (.mv (.t 4)),oz 13 (.len (.t 12)),oz 14 (.bin .neq (.t 13) (.k (.i .i64 4)))]) (.cond (.t 14) (.seq (rg false [oz 15 (.ld true 4 (.t 5)),on (.st 4 (.t 2) (.t 15)),oz 3 (.mv (.k (.i .i64 5)))]) .ret) .skip)) (.seq (.seq (rg false [oz 16 (.mv (.t 4)),oz 17 (.len (.t 16)),oz 18 (.mv (.k (.i .i64 0)))]) (.blk 0 (.loop [2,5,16,17,18] UV))) (.seq (rg false [oz 37 (.ld true 4 (.t 5)),on (.st 4 (.t 2) (.t 37)),oz 3 (.mv (.k (.i .i64 0)))]) .ret))))))⟩
noncomputable def Dq:D7:=⟨false,2,32,[.tmp 4],(.seq (rg false [oz 4 (.mv (.k (.s [])))]) (.seq (.seq (rg false [oz 9 (.mv (.t 1)),oz 10 (.bin .eql (.t 9) (.k (.i .i64 10)))]) (.cond (.t 10) (.seq (.seq (rg false [oz 11 (.mv (.t 0)),oz 12 (.bin .lss (.t 11) (.k (.i .u64 100)))]) (.cond (.t 12) (.seq (rg false [oz 13 (.mv (.t 0)),oz 14 (.cvi .i64 (.t 13)),oz 15 (.call C8 [(.t 14)]),oz 4 (.mv (.t 15))]) .ret) .skip)) (.seq (rg false [oz 5 (.alloc 240 (T.arr 24 T.u8).zc)]) (.seq (rg false [oz 16 (.mv (.t 0)),oz 17 (.call Ck [(.t 16)]),oz 6 (.mv (.t 17))]) (.seq (rg false [oz 18 (.mv (.t 6)),oz 19 (.sla 24 1 (.t 5) none (some (.t 18))),oz 20 (.mv (.t 0)),oz 21 (.call Cp [(.t 19),(.t 20)])]) (.seq (rg false [oz 22 (.mv (.t 6)),oz 23 (.sla 24 1 (.t 5) none (some (.t 22))),oz 24 (.cvs (.t 23)),oz 4 (.mv (.t 24))]) .ret))))) .skip)) (.seq (rg false [oz 26 (.mv (.t 0)),oz 27 (.mv (.t 1)),oz 28 (.call JU [(.k (.nils)),(.t 26),(.t 27),(.k (.b false)),(.k (.b false))]),oz 25 (.mv (.t 28)),oz 29 (.ext (.t 25) 0),oz 30 (.ext (.t 25) 1),oz 7 (.mv (.t 29)),oz 8 (.mv (.t 30))]) (.seq (rg false [oz 31 (.mv (.t 8)),oz 4 (.mv (.t 31))]) .ret))))⟩
noncomputable def M2:D7:=⟨false,1,14,[.tmp 2],(.seq (rg false [oz 2 (.mv (.k (.s [])))]) (.seq (.seq (rg false [oz 3 (.mv (.t 0)),oz 4 (.bin .lss (.t 3) (.k (.i .i64 16)))]) (.cond (.t 4) (.seq (rg false [oz 5 (.mv (.t 0)),oz 6 (.call ET [(.t 5)]),oz 2 (.mv (.t 6))]) .ret) .skip)) (.seq (rg false [oz 7 (.mv (.t 0)),oz 8 (.bin .quo (.t 7) (.k (.i .i64 16))),oz 9 (.call EU [(.t 8)]),oz 10 (.mv (.t 0)),oz 11 (.bin .rem (.t 10) (.k (.i .i64 16))),oz 12 (.call ET [(.t 11)]),oz 13 (.bin .add (.t 9) (.t 12)),oz 2 (.mv (.t 13))]) .ret)))⟩
noncomputable def Sr:AC:=(.seq (rg false [oz 8 (.bin .lss (.t 7) (.k (.i .i64 8)))]) (.seq (.cond (.t 8) .skip (.exit 0)) (.seq (.blk 1 (.seq (rg false [oz 9 (.mv (.t 7)),oz 4 (.mv (.t 9))]) (.seq (rg false [oz 11 (.mv (.t 4)),oz 12 (.bin .mul (.k (.i .i64 2)) (.t 11)),oz 13 (.mv (.t 4)),oz 14 (.bin .mul (.k (.i .i64 2)) (.t 13)),oz 15 (.bin .add (.t 14) (.k (.i .i64 2))),oz 16 (.sla 16 1 (.t 1) (some (.t 12)) (some (.t 15))),oz 17 (.call F6 [(.t 16)]),oz 10 (.mv (.t 17)),oz 18 (.ext (.t 10) 0),oz 19 (.ext (.t 10) 1),oz 5 (.mv (.t 18)),oz 6 (.mv (.t 19))]) (rg false [oz 20 (.mv (.t 4)),oz 21 (.mv (.t 5)),oz 22 (.cvi .u16 (.t 21)),oz 23 (.iaa 8 1 (.t 3) (.t 20)),on (.st 1 (.t 23) (.t 22))])))) (rg false [oz 24 (.bin .add (.t 7) (.k (.i .i64 1))),oz 7 (.mv (.t 24))]))))
noncomputable def J2:D7:=⟨false,1,26,[.cell true 8 2],(.seq (rg false [oz 1 (.box 23 16 (.t 0)),oz 2 (.alloc 229 (T.arr 8 T.u16).zc)]) (.seq (rg false [oz 3 (.alloc 229 (T.arr 8 T.u16).zc)]) (.seq (.seq (rg false [oz 7 (.mv (.k (.i .i64 0)))]) (.blk 0 (.loop [1,2,3,7] Sr))) (.seq (rg false [oz 25 (.ld true 8 (.t 3)),on (.st 8 (.t 2) (.t 25))]) .ret))))⟩
noncomputable def Rn:AC:=(.seq (rg false [oz 9 (.bin .lss (.t 8) (.k (.i .i64 8)))]) (.seq (.cond (.t 9) .skip (.exit 0)) (.seq (.blk 1 (.seq (rg false [oz 10 (.mv (.t 8)),oz 11 (.ixa 8 1 false (.t 7) (.t 8)),oz 5 (.mv (.t 10)),oz 6 (.mv (.t 11))]) (.seq (.seq (rg false [oz 12 (.mv (.t 6)),oz 13 (.bin .neq (.t 12) (.k (.i .u16 0)))]) (.cond (.t 13) (.seq (rg false [oz 4 (.mv (.k (.i .i64 0)))]) (.exit 1)) .skip)) (.seq (rg false [oz 14 (.mv (.t 4)),oz 15 (.bin .add (.t 14) (.k (.i .i64 1))),oz 4 (.mv (.t 15))]) (.seq (rg false [oz 16 (.mv (.t 4)),oz 17 (.mv (.t 3)),oz 18 (.bin .gtr (.t 16) (.t 17))]) (.cond (.t 18) (rg false [oz 19 (.mv (.t 5)),oz 20 (.bin .add (.t 19) (.k (.i .i64 1))),oz 21 (.mv (.t 4)),oz 22 (.bin .sub (.t 20) (.t 21)),oz 23 (.mv (.t 4)),oz 2 (.mv (.t 22)),oz 3 (.mv (.t 23))]) .skip)))))) (rg false [oz 24 (.bin .add (.t 8) (.k (.i .i64 1))),oz 8 (.mv (.t 24))]))))
noncomputable def I2:D7:=⟨false,1,27,[.tmp 2, .tmp 3],(.seq (rg false [oz 1 (.box 229 8 (.t 0)),oz 2 (.mv (.k (.i .i64 0))),oz 3 (.mv (.k (.i .i64 0)))]) (.seq (rg false [oz 4 (.mv (.k (.i .i64 0)))]) (.seq (.seq (rg false [oz 7 (.ld true 8 (.t 1)),oz 8 (.mv (.k (.i .i64 0)))]) (.blk 0 (.loop [2,3,4,7,8] Rn))) (.seq (rg false [oz 25 (.mv (.t 2)),oz 26 (.mv (.t 3)),oz 2 (.mv (.t 25)),oz 3 (.mv (.t 26))]) .ret))))⟩
noncomputable def Xj:AC:=(.seq (rg false [oz 9 (.bin .lss (.t 8) (.t 7))]) (.seq (.cond (.t 9) .skip (.exit 0)) (.seq (.blk 1 (.seq (rg false [oz 10 (.ias 1 (.t 6) (.t 8)),oz 11 (.ld false 1 (.t 10)),oz 5 (.mv (.t 11))]) (rg false [oz 12 (.mv (.t 3)),oz 13 (.mv (.t 5)),oz 14 (.call Gx [(.t 13)]),oz 15 (.bll 1 (List.replicate 1 Ak.zc) [(0,(.t 14))]),oz 16 (.app 9 1 16 (.t 12) (.t 15)),oz 3 (.mv (.t 16))]))) (rg false [oz 17 (.bin .add (.t 8) (.k (.i .i64 1))),oz 8 (.mv (.t 17))]))))
noncomputable def M6:D7:=⟨false,1,20,[.tmp 2],(.seq (rg false [oz 2 (.mv (.k (.s [])))]) (.seq (rg false [oz 3 (.mv (.k (.nils)))]) (.seq (.seq (rg false [oz 6 (.mv (.t 0)),oz 7 (.len (.t 6)),oz 8 (.mv (.k (.i .i64 0)))]) (.blk 0 (.loop [3,6,7,8] Xj))) (.seq (rg false [oz 18 (.mv (.t 3)),oz 19 (.call Ee [(.t 18),(.k (.s [58]))]),oz 2 (.mv (.t 19))]) .ret))))⟩
noncomputable def CQ:D7:=⟨false,2,15,[.tmp 4, .tmp 5],(.seq (rg false [oz 4 (.mv (.k (.s []))),oz 5 (.mv (.k (.b false)))]) (.seq (.seq (rg false [oz 6 (.mv (.t 0)),oz 7 (.mv (.t 1)),oz 8 (.call B0 [(.t 6),(.t 7)]),oz 9 (.un .not (.t 8))]) (.cond (.t 9) (.seq (rg false [oz 10 (.mv (.t 0)),oz 4 (.mv (.t 10)),oz 5 (.mv (.k (.b false)))]) .ret) .skip)) (.seq (rg false [oz 11 (.mv (.t 0)),oz 12 (.mv (.t 1)),oz 13 (.lens (.t 12)),oz 14 (.sls (.t 11) (some (.t 13)) none),oz 4 (.mv (.t 14)),oz 5 (.mv (.k (.b true)))]) .ret)))⟩
noncomputable def DX:D7:=⟨false,2,23,[.tmp 4, .tmp 5, .tmp 6],(.seq (rg false [oz 4 (.mv (.k (.s []))),oz 5 (.mv (.k (.s []))),oz 6 (.mv (.k (.b false)))]) (.seq (.seq (rg false [oz 8 (.mv (.t 0)),oz 9 (.mv (.t 1)),oz 10 (.call C7 [(.t 8),(.t 9)]),oz 7 (.mv (.t 10))]) (.seq (rg false [oz 11 (.mv (.t 7)),oz 12 (.bin .geq (.t 11) (.k (.i .i64 0)))]) (.cond (.t 12) (.seq (rg true [oz 13 (.mv (.t 0)),oz 14 (.mv (.t 7)),oz 15 (.sls (.t 13) none (some (.t 14))),oz 16 (.mv (.t 0)),oz 17 (.mv (.t 7)),oz 18 (.mv (.t 1)),oz 19 (.lens (.t 18)),oz 20 (.bin .add (.t 17) (.t 19)),oz 21 (.sls (.t 16) (some (.t 20)) none),oz 4 (.mv (.t 15)),oz 5 (.mv (.t 21)),oz 6 (.mv (.k (.b true)))]) .ret) .skip))) (.seq (rg false [oz 22 (.mv (.t 0)),oz 4 (.mv (.t 22)),oz 5 (.mv (.k (.s []))),oz 6 (.mv (.k (.b false)))]) .ret)))⟩
noncomputable def MQ:AC:=(.blk 1 (.seq (rg false [oz 20 (.mv (.t 1)),oz 21 (.call EV [(.t 20),(.k (.i .u8 58))]),oz 19 (.mv (.t 21)),oz 22 (.ext (.t 19) 0),oz 23 (.ext (.t 19) 1),oz 24 (.ext (.t 19) 2),oz 5 (.mv (.t 22)),oz 6 (.mv (.t 23)),oz 7 (.mv (.t 24))]) (.seq (.seq (rg false [oz 25 (.mv (.t 7)),oz 26 (.un .not (.t 25))]) (.cond (.t 26) (.seq (rg false [oz 27 (.mv (.t 0)),oz 28 (.mv (.t 5)),oz 29 (.call DT [(.t 27),(.t 28)]),oz 4 (.mv (.t 29))]) .ret) .skip)) (.seq (rg false [oz 31 (.mv (.t 5)),oz 32 (.call D6 [(.t 31)]),oz 30 (.mv (.t 32)),oz 33 (.ext (.t 30) 0),oz 34 (.ext (.t 30) 1),oz 8 (.mv (.t 33)),oz 9 (.mv (.t 34))]) (.seq (.seq (rg false [oz 35 (.mv (.t 9)),oz 36 (.bin .neq (.t 35) (.k (.i .i64 0))),oz 37 (.mv (.t 36)),⟨some 38,some (37,false), .mv (.t 0)⟩,⟨some 39,some (37,false), .mv (.t 8)⟩,⟨some 40,some (37,false), .call C0 [(.t 38),(.t 39)]⟩,⟨some 41,some (37,false), .un .not (.t 40)⟩,oz 42 (.pick (.t 37) (.k (.b true)) (.t 41))]) (.cond (.t 42) (.seq (rg false [oz 4 (.mv (.k (.b false)))]) .ret) .skip)) (.seq (rg false [oz 43 (.mv (.t 6)),oz 1 (.mv (.t 43))]) (.seq (.seq (rg false [oz 44 (.mv (.t 1)),oz 45 (.call Dc [(.t 44),(.k (.s [58]))]),oz 46 (.un .not (.t 45))]) (.cond (.t 46) (.exit 1) .skip)) (.seq (.seq (rg false [oz 47 (.mv (.t 0)),oz 48 (.nilc (.t 47)),oz 49 (.fa 9 (.t 48)),oz 50 (.ld false 1 (.t 49)),oz 51 (.bin .geq (.t 50) (.k (.i .i64 0)))]) (.cond (.t 51) (.seq (rg false [oz 4 (.mv (.k (.b false)))]) .ret) .skip)) (.seq (rg false [oz 52 (.mv (.t 0)),oz 53 (.mv (.t 0)),oz 54 (.nilc (.t 53)),oz 55 (.fa 8 (.t 54)),oz 56 (.ld false 1 (.t 55)),oz 57 (.nilc (.t 52)),oz 58 (.fa 9 (.t 57)),on (.st 1 (.t 58) (.t 56))])
  (.seq (rg false [oz 59 (.mv (.t 1)),oz 60 (.sls (.t 59) (some (.k (.i .i64 1))) none),oz 1 (.mv (.t 60))]) (.seq (rg false [oz 61 (.mv (.t 1)),oz 62 (.bin .eql (.t 61) (.k (.s [])))]) (.cond (.t 62) (.seq (rg false [oz 4 (.mv (.k (.b true)))]) .ret) .skip))))))))))))
noncomputable def Hw:D7:=⟨true,2,63,[.tmp 4],(.seq (rg false [oz 4 (.mv (.k (.b false)))]) (.seq (.seq (rg false [oz 10 (.mv (.t 1)),oz 11 (.call Dc [(.t 10),(.k (.s [58,58]))])]) (.cond (.t 11) (.seq (rg false [oz 12 (.mv (.t 0)),oz 13 (.nilc (.t 12)),oz 14 (.fa 9 (.t 13)),on (.st 1 (.t 14) (.k (.i .i64 0)))]) (.seq (rg false [oz 15 (.mv (.t 1)),oz 16 (.sls (.t 15) (some (.k (.i .i64 2))) none),oz 1 (.mv (.t 16))]) (.seq (rg false [oz 17 (.mv (.t 1)),oz 18 (.bin .eql (.t 17) (.k (.s [])))]) (.cond (.t 18) (.seq (rg false [oz 4 (.mv (.k (.b true)))]) .ret) .skip)))) .skip)) (.blk 0 (.loop [0,1] MQ))))⟩
noncomputable def G1:D7:=⟨true,1,63,[.cell true 8 2, .tmp 3],(.seq (rg false [oz 2 (.alloc 229 (T.arr 8 T.u16).zc),oz 3 (.mv (.k (.b false)))]) (.seq (.seq (rg false [oz 5 (.mv (.t 0)),oz 6 (.nilc (.t 5)),oz 7 (.fa 9 (.t 6)),oz 8 (.ld false 1 (.t 7)),oz 9 (.bin .lss (.t 8) (.k (.i .i64 0)))]) (.cond (.t 9) (.seq (.regd [oz 10 (.mv (.t 0)),oz 11 (.nilc (.t 10)),oz 12 (.fa 0 (.t 11)),oz 13 (.ld true 8 (.t 12)),oz 14 (.mv (.t 0)),oz 15 (.nilc (.t 14)),oz 16 (.fa 8 (.t 15)),oz 17 (.ld false 1 (.t 16)),oz 18 (.bin .eql (.t 17) (.k (.i .i64 8))),on (.st 8 (.t 2) (.t 13)),oz 3 (.mv (.t 18))] [some (0,0),some (0,0),some (0,0),some (0,0),some (0,1),some (0,1),some (0,1),some (0,1),some (0,1),none,some (1,1)]) .ret) .skip)) (.seq (.seq (rg false [oz 19 (.mv (.t 0)),oz 20 (.nilc (.t 19)),oz 21 (.fa 8 (.t 20)),oz 22 (.ld false 1 (.t 21)),oz 23 (.bin .eql (.t 22) (.k (.i .i64 8)))]) (.cond (.t 23) (.seq (rg false [oz 24 (.mv (.t 0)),oz 25 (.nilc (.t 24)),oz 26 (.fa 0 (.t 25)),oz 27 (.ld true 8 (.t 26)),on (.st 8 (.t 2) (.t 27)),oz 3 (.mv (.k (.b false)))]) .ret) .skip)) (.seq (rg false [oz 4 (.alloc 229 (T.arr 8 T.u16).zc)]) (.seq (.regd [oz 28 (.sla 8 1 (.t 4) none none),oz 29 (.mv (.t 0)),oz 30 (.nilc (.t 29)),oz 31 (.fa 0 (.t 30)),oz 32 (.mv (.t 0)),oz 33 (.nilc (.t 32)),oz 34 (.fa 9 (.t 33)),oz 35 (.ld false 1 (.t 34)),oz 36 (.sla 8 1 (.t 31) none (some (.t 35))),oz 37 (.cpy 1 (.t 28) (.t 36))] [some (0,0),some (0,0),some (0,0),some (0,0),some (0,0),some (0,0),some (0,0),some (0,0),some (0,0),none])
 (.seq (.regd [oz 38 (.mv (.t 0)),oz 39 (.nilc (.t 38)),oz 40 (.fa 8 (.t 39)),oz 41 (.ld false 1 (.t 40)),oz 42 (.bin .sub (.k (.i .i64 8)) (.t 41)),oz 43 (.mv (.t 0)),oz 44 (.nilc (.t 43)),oz 45 (.fa 9 (.t 44)),oz 46 (.ld false 1 (.t 45)),oz 47 (.bin .add (.t 42) (.t 46)),oz 48 (.sla 8 1 (.t 4) (some (.t 47)) none),oz 49 (.mv (.t 0)),oz 50 (.nilc (.t 49)),oz 51 (.fa 0 (.t 50)),oz 52 (.mv (.t 0)),oz 53 (.nilc (.t 52)),oz 54 (.fa 9 (.t 53)),oz 55 (.ld false 1 (.t 54)),oz 56 (.mv (.t 0)),oz 57 (.nilc (.t 56)),oz 58 (.fa 8 (.t 57)),oz 59 (.ld false 1 (.t 58)),oz 60 (.sla 8 1 (.t 51) (some (.t 55)) (some (.t 59))),oz 61 (.cpy 1 (.t 48) (.t 60))] [some (0,0),some (0,0),some (0,0),some (0,0),some (0,0),some (0,0),some (0,0),some (0,0),some (0,0),some (0,0),some (0,0),some (0,0),some (0,0),some (0,0),some (0,0),some (0,0),some (0,0),some (0,0),some (0,0),some (0,0),some (0,0),some (0,0),some (0,0),none]) (.seq (rg false [oz 62 (.ld true 8 (.t 4)),on (.st 8 (.t 2) (.t 62)),oz 3 (.mv (.k (.b true)))]) .ret)))))))⟩
noncomputable def E1:D7:=⟨false,1,15,[.tmp 2],(.seq (rg false [oz 2 (.mv (.k (.s [])))]) (.seq (.seq (rg false [oz 3 (.mv (.t 0)),oz 4 (.bin .lss (.t 3) (.k (.i .i64 10)))]) (.cond (.t 4) (.seq (rg false [oz 5 (.mv (.t 0)),oz 6 (.mv (.t 0)),oz 7 (.bin .add (.t 6) (.k (.i .i64 1))),oz 8 (.sls (.k (.s [48,49,50,51,52,53,54,55,56,57,97,98,99,100,101,102,103,104,105,106,107,108,109,110,111,112,113,114,115,116,117,118,119,120,121,122])) (some (.t 5)) (some (.t 7))),oz 2 (.mv (.t 8))]) .ret) .skip)) (.seq (rg false [oz 9 (.mv (.t 0)),oz 10 (.bin .mul (.t 9) (.k (.i .i64 2))),oz 11 (.mv (.t 0)),oz 12 (.bin .mul (.t 11) (.k (.i .i64 2))),oz 13 (.bin .add (.t 12) (.k (.i .i64 2))),oz 14 (.sls (.k (.s Fu)) (some (.t 10)) (some (.t 13))),oz 2 (.mv (.t 14))]) .ret)))⟩
noncomputable def Dz:D7:=⟨false,1,15,[.tmp 2],(.seq (rg false [oz 2 (.mv (.k (.i .i64 0)))]) (.seq (rg false [oz 4 (.mv (.t 0)),oz 5 (.call Eu [(.t 4)]),oz 6 (.call Cl [(.t 5)]),oz 3 (.mv (.t 6))]) (.seq (rg false [oz 7 (.mv (.t 3)),oz 8 (.mv (.t 0)),oz 9 (.mv (.t 3)),oz 10 (.iaa 20 1 (.g 2) (.t 9)),oz 11 (.ld false 1 (.t 10)),oz 12 (.bin .geq (.t 8) (.t 11)),oz 13 (.call Cm [(.t 12)]),oz 14 (.bin .add (.t 7) (.t 13)),oz 2 (.mv (.t 14))]) .ret)))⟩
noncomputable def IC:AC:=(.seq (.seq (rg false [oz 19 (.mv (.t 4)),oz 20 (.bin .geq (.t 19) (.k (.i .i64 8)))]) (.cond (.t 20) .skip (.exit 0))) (.blk 1 (.seq (rg false [oz 21 (.mv (.t 1)),oz 22 (.bin .rem (.t 21) (.k (.i .u64 100000000))),oz 23 (.cvi .u32 (.t 22)),oz 5 (.mv (.t 23))]) (.seq (rg false [oz 24 (.mv (.t 1)),oz 25 (.bin .quo (.t 24) (.k (.i .u64 100000000))),oz 1 (.mv (.t 25))]) (.seq (rg false [oz 26 (.mv (.t 5)),oz 27 (.bin .quo (.t 26) (.k (.i .u32 10000))),oz 28 (.mv (.t 5)),oz 29 (.bin .rem (.t 28) (.k (.i .u32 10000))),oz 6 (.mv (.t 27)),oz 7 (.mv (.t 29))]) (.seq (rg false [oz 30 (.mv (.t 7)),oz 31 (.bin .quo (.t 30) (.k (.i .u32 100))),oz 32 (.bin .mul (.t 31) (.k (.i .u32 2))),oz 33 (.mv (.t 7)),oz 34 (.bin .rem (.t 33) (.k (.i .u32 100))),oz 35 (.bin .mul (.t 34) (.k (.i .u32 2))),oz 8 (.mv (.t 32)),oz 9 (.mv (.t 35))]) (.seq (rg false [oz 36 (.mv (.t 6)),oz 37 (.bin .quo (.t 36) (.k (.i .u32 100))),oz 38 (.bin .mul (.t 37) (.k (.i .u32 2))),oz 39 (.mv (.t 6)),oz 40 (.bin .rem (.t 39) (.k (.i .u32 100))),oz 41 (.bin .mul (.t 40) (.k (.i .u32 2))),oz 10 (.mv (.t 38)),oz 11 (.mv (.t 41))]) (.seq (.regd [oz 42 (.mv (.t 0)),oz 43 (.mv (.t 4)),oz 44 (.bin .sub (.t 43) (.k (.i .i64 1))),oz 45 (.mv (.t 0)),oz 46 (.mv (.t 4)),oz 47 (.bin .sub (.t 46) (.k (.i .i64 2))),oz 48 (.mv (.t 9)),oz 49 (.bin .add (.t 48) (.k (.i .u32 1))),oz 50 (.ixs (.k (.s Fu)) (.t 49)),oz 51 (.mv (.t 9)),oz 52 (.ixs (.k (.s Fu)) (.t 51)),oz 53 (.ias 1 (.t 42) (.t 44)),on (.st 1 (.t 53) (.t 50)),oz 54 (.ias 1 (.t 45) (.t 47)),on (.st 1 (.t 54) (.t 52))] [some (0,0),some (0,0),some (0,0),some (0,1),some (0,1),some (0,1),some (0,0),some (0,0),some (0,0),some (0,1),some (0,1),some (0,0),none,some (1,1),none])
  (.seq (.regd [oz 55 (.mv (.t 0)),oz 56 (.mv (.t 4)),oz 57 (.bin .sub (.t 56) (.k (.i .i64 3))),oz 58 (.mv (.t 0)),oz 59 (.mv (.t 4)),oz 60 (.bin .sub (.t 59) (.k (.i .i64 4))),oz 61 (.mv (.t 8)),oz 62 (.bin .add (.t 61) (.k (.i .u32 1))),oz 63 (.ixs (.k (.s Fu)) (.t 62)),oz 64 (.mv (.t 8)),oz 65 (.ixs (.k (.s Fu)) (.t 64)),oz 66 (.ias 1 (.t 55) (.t 57)),on (.st 1 (.t 66) (.t 63)),oz 67 (.ias 1 (.t 58) (.t 60)),on (.st 1 (.t 67) (.t 65))] [some (0,0),some (0,0),some (0,0),some (0,1),some (0,1),some (0,1),some (0,0),some (0,0),some (0,0),some (0,1),some (0,1),some (0,0),none,some (1,1),none]) (.seq (.regd [oz 68 (.mv (.t 0)),oz 69 (.mv (.t 4)),oz 70 (.bin .sub (.t 69) (.k (.i .i64 5))),oz 71 (.mv (.t 0)),oz 72 (.mv (.t 4)),oz 73 (.bin .sub (.t 72) (.k (.i .i64 6))),oz 74 (.mv (.t 11)),oz 75 (.bin .add (.t 74) (.k (.i .u32 1))),oz 76 (.ixs (.k (.s Fu)) (.t 75)),oz 77 (.mv (.t 11)),oz 78 (.ixs (.k (.s Fu)) (.t 77)),oz 79 (.ias 1 (.t 68) (.t 70)),on (.st 1 (.t 79) (.t 76)),oz 80 (.ias 1 (.t 71) (.t 73)),on (.st 1 (.t 80) (.t 78))] [some (0,0),some (0,0),some (0,0),some (0,1),some (0,1),some (0,1),some (0,0),some (0,0),some (0,0),some (0,1),some (0,1),some (0,0),none,some (1,1),none]) (.seq (.regd [oz 81 (.mv (.t 0)),oz 82 (.mv (.t 4)),oz 83 (.bin .sub (.t 82) (.k (.i .i64 7))),oz 84 (.mv (.t 0)),oz 85 (.mv (.t 4)),oz 86 (.bin .sub (.t 85) (.k (.i .i64 8))),oz 87 (.mv (.t 10)),oz 88 (.bin .add (.t 87) (.k (.i .u32 1))),oz 89 (.ixs (.k (.s Fu)) (.t 88)),oz 90 (.mv (.t 10)),oz 91 (.ixs (.k (.s Fu)) (.t 90)),oz 92 (.ias 1 (.t 81) (.t 83)),on (.st 1 (.t 92) (.t 89)),oz 93 (.ias 1 (.t 84) (.t 86)),on (.st 1 (.t 93) (.t 91))] [some (0,0),some (0,0),some (0,0),some (0,1),some (0,1),some (0,1),some (0,0),some (0,0),some (0,0),some (0,1),some (0,1),some (0,0),none,some (1,1),none])
  (rg false [oz 94 (.mv (.t 4)),oz 95 (.bin .sub (.t 94) (.k (.i .i64 8))),oz 4 (.mv (.t 95))]))))))))))))
noncomputable def El:D7:=⟨true,2,167,[],(.seq (rg false [oz 17 (.mv (.t 0)),oz 18 (.len (.t 17)),oz 4 (.mv (.t 18))]) (.seq (.blk 0 (.loop [0,1,4] IC)) (.seq (rg false [oz 96 (.mv (.t 1)),oz 97 (.cvi .u32 (.t 96)),oz 12 (.mv (.t 97))]) (.seq (.seq (rg false [oz 98 (.mv (.t 4)),oz 99 (.bin .geq (.t 98) (.k (.i .i64 4)))]) (.cond (.t 99) (.seq (rg false [oz 100 (.mv (.t 12)),oz 101 (.bin .rem (.t 100) (.k (.i .u32 10000))),oz 13 (.mv (.t 101))]) (.seq (rg false [oz 102 (.mv (.t 12)),oz 103 (.bin .quo (.t 102) (.k (.i .u32 10000))),oz 12 (.mv (.t 103))]) (.seq (rg false [oz 104 (.mv (.t 13)),oz 105 (.bin .quo (.t 104) (.k (.i .u32 100))),oz 106 (.bin .mul (.t 105) (.k (.i .u32 2))),oz 107 (.mv (.t 13)),oz 108 (.bin .rem (.t 107) (.k (.i .u32 100))),oz 109 (.bin .mul (.t 108) (.k (.i .u32 2))),oz 14 (.mv (.t 106)),oz 15 (.mv (.t 109))]) (.seq (.regd [oz 110 (.mv (.t 0)),oz 111 (.mv (.t 4)),oz 112 (.bin .sub (.t 111) (.k (.i .i64 1))),oz 113 (.mv (.t 0)),oz 114 (.mv (.t 4)),oz 115 (.bin .sub (.t 114) (.k (.i .i64 2))),oz 116 (.mv (.t 15)),oz 117 (.bin .add (.t 116) (.k (.i .u32 1))),oz 118 (.ixs (.k (.s Fu)) (.t 117)),oz 119 (.mv (.t 15)),oz 120 (.ixs (.k (.s Fu)) (.t 119)),oz 121 (.ias 1 (.t 110) (.t 112)),on (.st 1 (.t 121) (.t 118)),oz 122 (.ias 1 (.t 113) (.t 115)),on (.st 1 (.t 122) (.t 120))] [some (0,0),some (0,0),some (0,0),some (0,1),some (0,1),some (0,1),some (0,0),some (0,0),some (0,0),some (0,1),some (0,1),some (0,0),none,some (1,1),none]) (.seq (.regd [oz 123 (.mv (.t 0)),oz 124 (.mv (.t 4)),oz 125 (.bin .sub (.t 124) (.k (.i .i64 3))),oz 126 (.mv (.t 0)),oz 127 (.mv (.t 4)),oz 128 (.bin .sub (.t 127) (.k (.i .i64 4))),oz 129 (.mv (.t 14)),oz 130 (.bin .add (.t 129) (.k (.i .u32 1))),oz 131 (.ixs (.k (.s Fu)) (.t 130)),oz 132 (.mv (.t 14)),oz 133 (.ixs (.k (.s Fu)) (.t 132)),oz 134 (.ias 1 (.t 123) (.t 125)),on (.st 1 (.t 134) (.t 131)),oz 135 (.ias 1 (.t 126) (.t 128)),on (.st 1 (.t 135) (.t 133))] [some (0,0),some (0,0),some (0,0),some (0,1),some (0,1),some (0,1),some (0,0),some (0,0),some (0,0),some (0,1),some (0,1),some (0,0),none,some (1,1),none])
  (rg false [oz 136 (.mv (.t 4)),oz 137 (.bin .sub (.t 136) (.k (.i .i64 4))),oz 4 (.mv (.t 137))])))))) .skip)) (.seq (.seq (rg false [oz 138 (.mv (.t 4)),oz 139 (.bin .geq (.t 138) (.k (.i .i64 2)))]) (.cond (.t 139) (.seq (rg false [oz 140 (.mv (.t 12)),oz 141 (.bin .rem (.t 140) (.k (.i .u32 100))),oz 142 (.bin .mul (.t 141) (.k (.i .u32 2))),oz 16 (.mv (.t 142))]) (.seq (rg false [oz 143 (.mv (.t 12)),oz 144 (.bin .quo (.t 143) (.k (.i .u32 100))),oz 12 (.mv (.t 144))]) (.seq (.regd [oz 145 (.mv (.t 0)),oz 146 (.mv (.t 4)),oz 147 (.bin .sub (.t 146) (.k (.i .i64 1))),oz 148 (.mv (.t 0)),oz 149 (.mv (.t 4)),oz 150 (.bin .sub (.t 149) (.k (.i .i64 2))),oz 151 (.mv (.t 16)),oz 152 (.bin .add (.t 151) (.k (.i .u32 1))),oz 153 (.ixs (.k (.s Fu)) (.t 152)),oz 154 (.mv (.t 16)),oz 155 (.ixs (.k (.s Fu)) (.t 154)),oz 156 (.ias 1 (.t 145) (.t 147)),on (.st 1 (.t 156) (.t 153)),oz 157 (.ias 1 (.t 148) (.t 150)),on (.st 1 (.t 157) (.t 155))] [some (0,0),some (0,0),some (0,0),some (0,1),some (0,1),some (0,1),some (0,0),some (0,0),some (0,0),some (0,1),some (0,1),some (0,0),none,some (1,1),none]) (rg false [oz 158 (.mv (.t 4)),oz 159 (.bin .sub (.t 158) (.k (.i .i64 2))),oz 4 (.mv (.t 159))])))) .skip)) (.seq (rg false [oz 160 (.mv (.t 4)),oz 161 (.bin .gtr (.t 160) (.k (.i .i64 0)))]) (.cond (.t 161) (rg false [oz 162 (.mv (.t 0)),oz 163 (.mv (.t 12)),oz 164 (.bin .add (.k (.i .u32 48)) (.t 163)),oz 165 (.cvi .u8 (.t 164)),oz 166 (.ias 1 (.t 162) (.k (.i .i64 0))),on (.st 1 (.t 166) (.t 165))])
  .skip)))))))⟩
noncomputable def Sq:AC:=(.seq (rg false [oz 13 (.bin .lss (.t 12) (.t 11))]) (.seq (.cond (.t 13) .skip (.exit 0)) (.seq (.blk 1 (.seq (rg false [oz 14 (.ias 1 (.t 10) (.t 12)),oz 15 (.ld false 1 (.t 14)),oz 6 (.mv (.t 15))]) (rg false [oz 16 (.mv (.t 4)),oz 17 (.bin .shl (.t 16) (.k (.i .u64 8))),oz 18 (.mv (.t 6)),oz 19 (.cvi .u64 (.t 18)),oz 20 (.bin .or (.t 17) (.t 19)),oz 4 (.mv (.t 20))]))) (rg false [oz 21 (.bin .add (.t 12) (.k (.i .i64 1))),oz 12 (.mv (.t 21))]))))
noncomputable def Jz:D7:=⟨false,1,23,[.tmp 2, .tmp 3],(.seq (rg false [oz 2 (.mv (.k (.i .u64 0))),oz 3 (.mv (.k (.i .i64 0)))]) (.seq (.seq (rg false [oz 7 (.mv (.t 0)),oz 8 (.call F5 [(.t 7)]),oz 9 (.un .not (.t 8))]) (.cond (.t 9) (.seq (rg false [oz 2 (.mv (.k (.i .u64 0))),oz 3 (.mv (.k (.i .i64 1)))]) .ret) .skip)) (.seq (rg false [oz 4 (.mv (.k (.i .u64 0)))]) (.seq (.seq (rg false [oz 10 (.mv (.t 0)),oz 11 (.len (.t 10)),oz 12 (.mv (.k (.i .i64 0)))]) (.blk 0 (.loop [4,10,11,12] Sq))) (.seq (rg false [oz 22 (.mv (.t 4)),oz 2 (.mv (.t 22)),oz 3 (.mv (.k (.i .i64 0)))]) .ret)))))⟩
noncomputable def T2:AC:=(.blk 1 (.seq (rg false [oz 4 (.mv (.t 0)),oz 5 (.bin .and (.t 4) (.k (.i .u16 15))),oz 6 (.ixs (.k (.s [48,49,50,51,52,53,54,55,56,57,97,98,99,100,101,102])) (.t 5)),oz 7 (.cvc (.t 6)),oz 8 (.mv (.t 3)),oz 9 (.bin .add (.t 7) (.t 8)),oz 3 (.mv (.t 9))]) (.seq (rg false [oz 10 (.mv (.t 0)),oz 11 (.bin .shr (.t 10) (.k (.i .u64 4))),oz 0 (.mv (.t 11))]) (.seq (rg false [oz 12 (.mv (.t 0)),oz 13 (.bin .eql (.t 12) (.k (.i .u16 0)))]) (.cond (.t 13) (.seq (rg false [oz 14 (.mv (.t 3)),oz 2 (.mv (.t 14))]) .ret) .skip)))))
noncomputable def Ks:D7:=⟨false,1,15,[.tmp 2],(.seq (rg false [oz 2 (.mv (.k (.s [])))]) (.seq (rg false [oz 3 (.mv (.k (.s [])))]) (.blk 0 (.loop [0,3] T2))))⟩
noncomputable def CP:D7:=⟨false,2,18,[.tmp 4],(.seq (rg false [oz 4 (.mv (.k (.b false)))]) (.seq (rg false [oz 5 (.mv (.t 0)),oz 6 (.lens (.t 5)),oz 7 (.mv (.t 1)),oz 8 (.lens (.t 7)),oz 9 (.bin .geq (.t 6) (.t 8)),oz 10 (.mv (.t 9)),⟨some 11,some (10,true), .mv (.t 0)⟩,⟨some 12,some (10,true), .mv (.t 1)⟩,⟨some 13,some (10,true), .lens (.t 12)⟩,⟨some 14,some (10,true), .sls (.t 11) none (some (.t 13))⟩,⟨some 15,some (10,true), .mv (.t 1)⟩,⟨some 16,some (10,true), .bin .eql (.t 14) (.t 15)⟩,oz 17 (.pick (.t 10) (.t 16) (.k (.b false))),oz 4 (.mv (.t 17))]) .ret))⟩
noncomputable def Gh:D7:=⟨false,2,8,[.tmp 4],(.seq (rg false [oz 4 (.mv (.k (.b false)))]) (.seq (rg false [oz 5 (.mv (.t 0)),oz 6 (.mv (.t 1)),oz 7 (.call B0 [(.t 5),(.t 6)]),oz 4 (.mv (.t 7))]) .ret))⟩
noncomputable def Hv:D7:=⟨true,2,50,[.tmp 4],(.seq (rg false [oz 4 (.mv (.k (.b false)))]) (.seq (.seq (rg false [oz 10 (.mv (.t 1)),oz 11 (.call D6 [(.t 10)]),oz 9 (.mv (.t 11)),oz 12 (.ext (.t 9) 0),oz 13 (.ext (.t 9) 1),oz 5 (.mv (.t 12)),oz 6 (.mv (.t 13))]) (.seq (rg false [oz 14 (.mv (.t 6)),oz 15 (.bin .eql (.t 14) (.k (.i .i64 0)))]) (.cond (.t 15) (.seq (rg false [oz 16 (.mv (.t 0)),oz 17 (.mv (.t 5)),oz 18 (.call C0 [(.t 16),(.t 17)]),oz 4 (.mv (.t 18))]) .ret) .skip))) (.seq (rg false [oz 20 (.mv (.t 1)),oz 21 (.call FY [(.t 20)]),oz 19 (.mv (.t 21)),oz 22 (.ext (.t 19) 0),oz 23 (.ext (.t 19) 1),oz 7 (.alloc 156 (T.arr 4 T.u8).zc),on (.st 4 (.t 7) (.t 22)),oz 8 (.mv (.t 23))]) (.seq (rg false [oz 24 (.mv (.t 8)),oz 25 (.bin .eql (.t 24) (.k (.i .i64 0))),oz 26 (.mv (.t 25)),⟨some 27,some (26,true), .mv (.t 0)⟩,⟨some 28,some (26,true), .iaa 4 1 (.t 7) (.k (.i .i64 0))⟩,⟨some 29,some (26,true), .ld false 1 (.t 28)⟩,⟨some 30,some (26,true), .cvi .u16 (.t 29)⟩,⟨some 31,some (26,true), .bin .shl (.t 30) (.k (.i .u64 8))⟩,⟨some 32,some (26,true), .iaa 4 1 (.t 7) (.k (.i .i64 1))⟩,⟨some 33,some (26,true), .ld false 1 (.t 32)⟩,⟨some 34,some (26,true), .cvi .u16 (.t 33)⟩,⟨some 35,some (26,true), .bin .or (.t 31) (.t 34)⟩,⟨some 36,some (26,true), .call C0 [(.t 27),(.t 35)]⟩,oz 37 (.pick (.t 26) (.t 36) (.k (.b false))),oz 38 (.mv (.t 37)),⟨some 39,some (38,true), .mv (.t 0)⟩,⟨some 40,some (38,true), .iaa 4 1 (.t 7) (.k (.i .i64 2))⟩,⟨some 41,some (38,true), .ld false 1 (.t 40)⟩,⟨some 42,some (38,true), .cvi .u16 (.t 41)⟩,⟨some 43,some (38,true), .bin .shl (.t 42) (.k (.i .u64 8))⟩,⟨some 44,some (38,true), .iaa 4 1 (.t 7) (.k (.i .i64 3))⟩,⟨some 45,some (38,true), .ld false 1 (.t 44)⟩,⟨some 46,some (38,true), .cvi .u16 (.t 45)⟩,⟨some 47,some (38,true), .bin .or (.t 43) (.t 46)⟩,⟨some 48,some (38,true), .call C0 [(.t 39),(.t 47)]⟩,oz 49 (.pick (.t 38) (.t 48) (.k (.b false))),oz 4 (.mv (.t 49))])
 .ret))))⟩
noncomputable def Pz:AC:=(.seq (rg false [oz 19 (.bin .lss (.t 18) (.t 17))]) (.seq (.cond (.t 19) .skip (.exit 0)) (.seq (.blk 1 (.seq (rg false [oz 20 (.mv (.t 18)),oz 5 (.mv (.t 20))]) (.seq (rg false [oz 22 (.mv (.t 0)),oz 23 (.mv (.t 5)),oz 24 (.ixs (.t 22) (.t 23)),oz 25 (.call Gw [(.t 24)]),oz 26 (.call E7 [(.t 25)]),oz 21 (.mv (.t 26)),oz 27 (.ext (.t 21) 0),oz 28 (.ext (.t 21) 1),oz 6 (.mv (.t 27)),oz 7 (.mv (.t 28))]) (.seq (.seq (rg false [oz 29 (.mv (.t 7)),oz 30 (.un .not (.t 29))]) (.cond (.t 30) (.seq (rg false [oz 2 (.mv (.k (.i .u16 0))),oz 3 (.mv (.k (.i .i64 5)))]) .ret) .skip)) (rg false [oz 31 (.mv (.t 4)),oz 32 (.bin .shl (.t 31) (.k (.i .u64 4))),oz 33 (.mv (.t 6)),oz 34 (.bin .or (.t 32) (.t 33)),oz 4 (.mv (.t 34))]))))) (rg false [oz 35 (.bin .add (.t 18) (.k (.i .i64 1))),oz 18 (.mv (.t 35))]))))
noncomputable def H8:D7:=⟨false,1,37,[.tmp 2, .tmp 3],(.seq (rg false [oz 2 (.mv (.k (.i .u16 0))),oz 3 (.mv (.k (.i .i64 0)))]) (.seq (.seq (rg false [oz 8 (.mv (.t 0)),oz 9 (.lens (.t 8)),oz 10 (.bin .lss (.t 9) (.k (.i .i64 1))),oz 11 (.mv (.t 10)),⟨some 12,some (11,false), .mv (.t 0)⟩,⟨some 13,some (11,false), .lens (.t 12)⟩,⟨some 14,some (11,false), .bin .gtr (.t 13) (.k (.i .i64 4))⟩,oz 15 (.pick (.t 11) (.k (.b true)) (.t 14))]) (.cond (.t 15) (.seq (rg false [oz 2 (.mv (.k (.i .u16 0))),oz 3 (.mv (.k (.i .i64 5)))]) .ret) .skip)) (.seq (rg false [oz 4 (.mv (.k (.i .u16 0)))]) (.seq (.seq (rg false [oz 16 (.mv (.t 0)),oz 17 (.lens (.t 16)),oz 18 (.mv (.k (.i .i64 0)))]) (.blk 0 (.loop [0,4,17,18] Pz))) (.seq (rg false [oz 36 (.mv (.t 4)),oz 2 (.mv (.t 36)),oz 3 (.mv (.k (.i .i64 0)))]) .ret)))))⟩
noncomputable def HQ:D7:=⟨true,2,26,[.tmp 4],(.seq (rg false [oz 4 (.mv (.k (.b false)))]) (.seq (.seq (rg false [oz 5 (.mv (.t 0)),oz 6 (.nilc (.t 5)),oz 7 (.fa 8 (.t 6)),oz 8 (.ld false 1 (.t 7)),oz 9 (.bin .eql (.t 8) (.k (.i .i64 8)))]) (.cond (.t 9) (.seq (rg false [oz 4 (.mv (.k (.b false)))]) .ret) .skip)) (.seq (.regd [oz 10 (.mv (.t 0)),oz 11 (.mv (.t 0)),oz 12 (.nilc (.t 11)),oz 13 (.fa 8 (.t 12)),oz 14 (.ld false 1 (.t 13)),oz 15 (.mv (.t 1)),oz 16 (.nilc (.t 10)),oz 17 (.fa 0 (.t 16)),oz 18 (.iaa 8 1 (.t 17) (.t 14)),on (.st 1 (.t 18) (.t 15))] [some (0,0),some (0,0),some (0,0),some (0,0),some (0,0),some (0,0),some (0,0),some (0,0),some (0,0),none]) (.seq (rg false [oz 19 (.mv (.t 0)),oz 20 (.nilc (.t 19)),oz 21 (.fa 8 (.t 20)),oz 22 (.ld false 1 (.t 21)),oz 23 (.bin .add (.t 22) (.k (.i .i64 1))),oz 24 (.nilc (.t 19)),oz 25 (.fa 8 (.t 24)),on (.st 1 (.t 25) (.t 23))]) (.seq (rg false [oz 4 (.mv (.k (.b true)))]) .ret)))))⟩
noncomputable def D1:D7:=⟨false,1,6,[.tmp 2],(.seq (rg false [oz 2 (.mv (.k (.i .i64 0)))]) (.seq (rg false [oz 3 (.mv (.t 0)),oz 4 (.bin .mul (.t 3) (.k (.i .i64 78913))),oz 5 (.bin .shr (.t 4) (.k (.i .u64 18))),oz 2 (.mv (.t 5))]) .ret))⟩
noncomputable def H6:D7:=⟨false,1,25,[.tmp 2],(.seq (rg false [oz 2 (.mv (.k (.i .i64 0)))]) (.seq (.seq (rg false [oz 3 (.mv (.t 0)),oz 4 (.bin .geq (.t 3) (.k (.i .u64 4294967296)))]) (.cond (.t 4) (.seq (rg false [oz 5 (.mv (.t 0)),oz 6 (.bin .shr (.t 5) (.k (.i .u64 32))),oz 0 (.mv (.t 6))]) (rg false [oz 2 (.mv (.k (.i .i64 32)))])) .skip)) (.seq (.seq (rg false [oz 7 (.mv (.t 0)),oz 8 (.bin .geq (.t 7) (.k (.i .u64 65536)))]) (.cond (.t 8) (.seq (rg false [oz 9 (.mv (.t 0)),oz 10 (.bin .shr (.t 9) (.k (.i .u64 16))),oz 0 (.mv (.t 10))]) (rg false [oz 11 (.mv (.t 2)),oz 12 (.bin .add (.t 11) (.k (.i .i64 16))),oz 2 (.mv (.t 12))])) .skip)) (.seq (.seq (rg false [oz 13 (.mv (.t 0)),oz 14 (.bin .geq (.t 13) (.k (.i .u64 256)))]) (.cond (.t 14) (.seq (rg false [oz 15 (.mv (.t 0)),oz 16 (.bin .shr (.t 15) (.k (.i .u64 8))),oz 0 (.mv (.t 16))]) (rg false [oz 17 (.mv (.t 2)),oz 18 (.bin .add (.t 17) (.k (.i .i64 8))),oz 2 (.mv (.t 18))])) .skip)) (.seq (rg false [oz 19 (.mv (.t 2)),oz 20 (.mv (.t 0)),oz 21 (.cvi .u8 (.t 20)),oz 22 (.ixs (.k (.s str_1)) (.t 21)),oz 23 (.cvi .i64 (.t 22)),oz 24 (.bin .add (.t 19) (.t 23)),oz 2 (.mv (.t 24))]) .ret)))))⟩
noncomputable def D2:D7:=⟨false,1,4,[.tmp 2],(.seq (rg false [oz 2 (.mv (.k (.i .i64 0)))]) (.seq (.seq (rg false [oz 3 (.mv (.t 0))]) (.cond (.t 3) (.seq (rg false [oz 2 (.mv (.k (.i .i64 1)))]) .ret) .skip)) (.seq (rg false [oz 2 (.mv (.k (.i .i64 0)))]) .ret)))⟩
noncomputable def Jy:D7:=⟨false,1,11,[.tmp 2],(.seq (rg false [oz 2 (.mv (.k (.b false)))]) (.seq (rg false [oz 3 (.mv (.t 0)),oz 4 (.len (.t 3)),oz 5 (.bin .geq (.t 4) (.k (.i .i64 1))),oz 6 (.mv (.t 5)),⟨some 7,some (6,true), .mv (.t 0)⟩,⟨some 8,some (6,true), .len (.t 7)⟩,⟨some 9,some (6,true), .bin .leq (.t 8) (.k (.i .i64 8))⟩,oz 10 (.pick (.t 6) (.t 9) (.k (.b false))),oz 2 (.mv (.t 10))]) .ret))⟩
noncomputable def Kr:D7:=⟨false,1,12,[.tmp 2],(.seq (rg false [oz 2 (.mv (.k (.i .u8 0)))]) (.seq (.seq (rg false [oz 3 (.mv (.t 0)),oz 4 (.bin .geq (.t 3) (.k (.i .u8 65))),oz 5 (.mv (.t 4)),⟨some 6,some (5,true), .mv (.t 0)⟩,⟨some 7,some (5,true), .bin .leq (.t 6) (.k (.i .u8 70))⟩,oz 8 (.pick (.t 5) (.t 7) (.k (.b false)))]) (.cond (.t 8) (.seq (rg false [oz 9 (.mv (.t 0)),oz 10 (.bin .or (.t 9) (.k (.i .u8 32))),oz 2 (.mv (.t 10))]) .ret) .skip)) (.seq (rg false [oz 11 (.mv (.t 0)),oz 2 (.mv (.t 11))]) .ret)))⟩
def kQ:(Ar UInt64 20):=⟨[1,10,100,1000,10000,100000,1000000,10000000,100000000,1000000000,10000000000,100000000000,1000000000000,10000000000000,100000000000000,1000000000000000,10000000000000000,100000000000000000,1000000000000000000,10000000000000000000],rfl⟩
def gl_2:List AV:=kQ.l.map (fun(x:UInt64)=>AV.i .u64 x.toNat)
theorem gm_2:Bu gl_2=0:=tab_m (fun(x:UInt64)=>AV.i .u64 x.toNat) (fun _=>rfl) _
theorem gr_2: ∀P H,(T.arr 20 T.u64).R P H gl_2 kQ:=fun _ _=>tab_R kQ
def gl_3:List AV:=[.ifc 0 .junk]
theorem gm_3:Bu gl_3=0:=rfl
def gl_4:List AV:=[.ifc 0 .junk]
theorem gm_4:Bu gl_4=0:=rfl
noncomputable def gll:List (Nat×List AV):=[(2,gl_2),(3,gl_3),(4,gl_4)]
noncomputable def fnl:List (Nat×D7):=[(EF,Ie),(IQ,Oh),(FI,M5),(Ia,Mx),(FW,Lo),(Fl,Km),(Gu,Kn),(IL,NY),(HI,NZ),(Hm,Lp),(GK,My),(DB,La),(Ee,Jv),(Fm,Kp),(Hl,Ln),(FX,Lr),(Ib,M0),(EY,NX),(HJ,Oa),(Ef,Of),(IP,Og),(Gz,Ku),(GL,Mz),(Ez,NW),(IK,Rm),(HZ,Py),(Jk,Px),(Dk,Ga),(B5,Ek),(Cv,Fo),(EV,M4),(ET,M1),(HK,Oc),(DV,Ig),(AS,Ju),(EI,Jw),(AW,LU),(F4,Jt),(AU,LT),(Ct,Lm),(Fg,I1),(C4,NV),(EG,Ih),(C3,NU),(BP,Kl),(IR,Oi),(Ci,MP),(Ff,Iz),(Ch,MO),(Da,Kk),(Eg,J0),(Dv,MN),(Eh,J1),(GJ,Mw),(Du,MM),(BE,EB),(Db,Gg),(IM,Od),(IN,Oe),(EZ,Lv),(Ea,GT),(BZ,EC),(EJ,Jx),(Hp,Lu),(GM,M7),(Ev,H7),(Hq,Lw),(JT,PV),(Ds,FL),(EH,Ii),(BG,CO),(Hn,Lq),(IB,PT),(HL,PU),(GN,M8),(Fe,Iy),(E7,Kq),(Ic,M3),(Ho,Lt),(DC,Gi),(Gv,Ko),(Gy,Kt),(IS,Oj),(FY,Ls),(Ca,Dq),(EU,M2),(F7,J2),(Fh,I2),(FJ,M6),(BH,CQ),(Cw,DX),(DU,Hw),(Dw,G1),(C8,E1),(Ck,Dz),(Cp,El),(F6,Jz),(Gx,Ks),(B0,CP),(Dc,Gh),(DT,Hv),(D6,H8),(C0,HQ),(Cl,D1),(Eu,H6),(Cm,D2),(F5,Jy),(Gw,Kr)]
def prl:List (Nat×(List AV→Ax→Option (AV×Option Ax))):=[(C5,Wd),(FZ,Oy),(F0,(YF 107 5)),(FH,Wc),(C7,RE)]
def itl:List Nat:=[1]
noncomputable def tb:Dg:=⟨fun n=>look n fnl,fun n=>look n gll,fun n=>look n prl,itl⟩
theorem Tn:tb.prim EF=none∧tb.fns EF=some Ie:=⟨rfl,rfl⟩
theorem lF:tb.prim IQ=none∧tb.fns IQ=some Oh:=⟨rfl,rfl⟩
theorem gI:tb.prim FI=none∧tb.fns FI=some M5:=⟨rfl,rfl⟩
theorem gA:tb.prim Ia=none∧tb.fns Ia=some Mx:=⟨rfl,rfl⟩
theorem aW:tb.prim FW=none∧tb.fns FW=some Lo:=⟨rfl,rfl⟩
theorem Yg:tb.prim Fl=none∧tb.fns Fl=some Km:=⟨rfl,rfl⟩
theorem Yh:tb.prim Gu=none∧tb.fns Gu=some Kn:=⟨rfl,rfl⟩
theorem kX:tb.prim IL=none∧tb.fns IL=some NY:=⟨rfl,rfl⟩
theorem kY:tb.prim HI=none∧tb.fns HI=some NZ:=⟨rfl,rfl⟩
theorem aX:tb.prim Hm=none∧tb.fns Hm=some Lp:=⟨rfl,rfl⟩
theorem gB:tb.prim GK=none∧tb.fns GK=some My:=⟨rfl,rfl⟩
theorem Ix:tb.prim DB=none∧tb.fns DB=some La:=⟨rfl,rfl⟩
theorem WL:tb.prim Ee=none∧tb.fns Ee=some Jv:=⟨rfl,rfl⟩
theorem Yj:tb.prim Fm=none∧tb.fns Fm=some Kp:=⟨rfl,rfl⟩
theorem aV:tb.prim Hl=none∧tb.fns Hl=some Ln:=⟨rfl,rfl⟩
theorem aZ:tb.prim FX=none∧tb.fns FX=some Lr:=⟨rfl,rfl⟩
theorem gD:tb.prim Ib=none∧tb.fns Ib=some M0:=⟨rfl,rfl⟩
theorem kW:tb.prim EY=none∧tb.fns EY=some NX:=⟨rfl,rfl⟩
theorem kZ:tb.prim HJ=none∧tb.fns HJ=some Oa:=⟨rfl,rfl⟩
theorem lD:tb.prim Ef=none∧tb.fns Ef=some Of:=⟨rfl,rfl⟩
theorem lE:tb.prim IP=none∧tb.fns IP=some Og:=⟨rfl,rfl⟩
theorem Yo:tb.prim Gz=none∧tb.fns Gz=some Ku:=⟨rfl,rfl⟩
theorem gC:tb.prim GL=none∧tb.fns GL=some Mz:=⟨rfl,rfl⟩
theorem BL:tb.prim Ez=none∧tb.fns Ez=some NW:=⟨rfl,rfl⟩
theorem HM:tb.prim IK=none∧tb.fns IK=some Rm:=⟨rfl,rfl⟩
theorem G7:tb.prim HZ=none∧tb.fns HZ=some Py:=⟨rfl,rfl⟩
theorem Mr:tb.prim Jk=none∧tb.fns Jk=some Px:=⟨rfl,rfl⟩
theorem MG:tb.prim Dk=none∧tb.fns Dk=some Ga:=⟨rfl,rfl⟩
theorem Ej:tb.prim B5=none∧tb.fns B5=some Ek:=⟨rfl,rfl⟩
theorem HP:tb.prim Cv=none∧tb.fns Cv=some Fo:=⟨rfl,rfl⟩
theorem gH:tb.prim EV=none∧tb.fns EV=some M4:=⟨rfl,rfl⟩
theorem gE:tb.prim ET=none∧tb.fns ET=some M1:=⟨rfl,rfl⟩
theorem lA:tb.prim HK=none∧tb.fns HK=some Oc:=⟨rfl,rfl⟩
theorem Tp:tb.prim DV=none∧tb.fns DV=some Ig:=⟨rfl,rfl⟩
theorem WK:tb.prim AS=none∧tb.fns AS=some Ju:=⟨rfl,rfl⟩
theorem WM:tb.prim EI=none∧tb.fns EI=some Jw:=⟨rfl,rfl⟩
theorem HO:tb.prim AW=none∧tb.fns AW=some LU:=⟨rfl,rfl⟩
theorem WJ:tb.prim F4=none∧tb.fns F4=some Jt:=⟨rfl,rfl⟩
theorem HN:tb.prim AU=none∧tb.fns AU=some LT:=⟨rfl,rfl⟩
theorem aU:tb.prim Ct=none∧tb.fns Ct=some Lm:=⟨rfl,rfl⟩
theorem UN:tb.prim Fg=none∧tb.fns Fg=some I1:=⟨rfl,rfl⟩
theorem Sb:tb.prim C4=none∧tb.fns C4=some NV:=⟨rfl,rfl⟩
theorem Tq:tb.prim EG=none∧tb.fns EG=some Ih:=⟨rfl,rfl⟩
theorem Sa:tb.prim C3=none∧tb.fns C3=some NU:=⟨rfl,rfl⟩
theorem Yf:tb.prim BP=none∧tb.fns BP=some Kl:=⟨rfl,rfl⟩
theorem lG:tb.prim IR=none∧tb.fns IR=some Oi:=⟨rfl,rfl⟩
theorem Q7:tb.prim Ci=none∧tb.fns Ci=some MP:=⟨rfl,rfl⟩
theorem UM:tb.prim Ff=none∧tb.fns Ff=some Iz:=⟨rfl,rfl⟩
theorem Q6:tb.prim Ch=none∧tb.fns Ch=some MO:=⟨rfl,rfl⟩
theorem Ye:tb.prim Da=none∧tb.fns Da=some Kk:=⟨rfl,rfl⟩
theorem WQ:tb.prim Eg=none∧tb.fns Eg=some J0:=⟨rfl,rfl⟩
theorem Yd:tb.prim Dv=none∧tb.fns Dv=some MN:=⟨rfl,rfl⟩
theorem WR:tb.prim Eh=none∧tb.fns Eh=some J1:=⟨rfl,rfl⟩
theorem fZ:tb.prim GJ=none∧tb.fns GJ=some Mw:=⟨rfl,rfl⟩
theorem Yc:tb.prim Du=none∧tb.fns Du=some MM:=⟨rfl,rfl⟩
theorem Cn:tb.prim BE=none∧tb.fns BE=some EB:=⟨rfl,rfl⟩
theorem Qk:tb.prim Db=none∧tb.fns Db=some Gg:=⟨rfl,rfl⟩
theorem lB:tb.prim IM=none∧tb.fns IM=some Od:=⟨rfl,rfl⟩
theorem lC:tb.prim IN=none∧tb.fns IN=some Oe:=⟨rfl,rfl⟩
theorem bD:tb.prim EZ=none∧tb.fns EZ=some Lv:=⟨rfl,rfl⟩
theorem Re:tb.prim Ea=none∧tb.fns Ea=some GT:=⟨rfl,rfl⟩
theorem G8:tb.prim BZ=none∧tb.fns BZ=some EC:=⟨rfl,rfl⟩
theorem WN:tb.prim EJ=none∧tb.fns EJ=some Jx:=⟨rfl,rfl⟩
theorem bC:tb.prim Hp=none∧tb.fns Hp=some Lu:=⟨rfl,rfl⟩
theorem gK:tb.prim GM=none∧tb.fns GM=some M7:=⟨rfl,rfl⟩
theorem Sd:tb.prim Ev=none∧tb.fns Ev=some H7:=⟨rfl,rfl⟩
theorem bE:tb.prim Hq=none∧tb.fns Hq=some Lw:=⟨rfl,rfl⟩
theorem qS:tb.prim JT=none∧tb.fns JT=some PV:=⟨rfl,rfl⟩
theorem Pr:tb.prim Ds=none∧tb.fns Ds=some FL:=⟨rfl,rfl⟩
theorem Tr:tb.prim EH=none∧tb.fns EH=some Ii:=⟨rfl,rfl⟩
theorem Jl:tb.prim BG=none∧tb.fns BG=some CO:=⟨rfl,rfl⟩
theorem aY:tb.prim Hn=none∧tb.fns Hn=some Lq:=⟨rfl,rfl⟩
theorem qQ:tb.prim IB=none∧tb.fns IB=some PT:=⟨rfl,rfl⟩
theorem qR:tb.prim HL=none∧tb.fns HL=some PU:=⟨rfl,rfl⟩
theorem gL:tb.prim GN=none∧tb.fns GN=some M8:=⟨rfl,rfl⟩
theorem UL:tb.prim Fe=none∧tb.fns Fe=some Iy:=⟨rfl,rfl⟩
theorem Yk:tb.prim E7=none∧tb.fns E7=some Kq:=⟨rfl,rfl⟩
theorem gG:tb.prim Ic=none∧tb.fns Ic=some M3:=⟨rfl,rfl⟩
theorem bB:tb.prim Ho=none∧tb.fns Ho=some Lt:=⟨rfl,rfl⟩
theorem Qm:tb.prim DC=none∧tb.fns DC=some Gi:=⟨rfl,rfl⟩
theorem Yi:tb.prim Gv=none∧tb.fns Gv=some Ko:=⟨rfl,rfl⟩
theorem Yn:tb.prim Gy=none∧tb.fns Gy=some Kt:=⟨rfl,rfl⟩
theorem lH:tb.prim IS=none∧tb.fns IS=some Oj:=⟨rfl,rfl⟩
theorem bA:tb.prim FY=none∧tb.fns FY=some Ls:=⟨rfl,rfl⟩
theorem KH:tb.prim Ca=none∧tb.fns Ca=some Dq:=⟨rfl,rfl⟩
theorem gF:tb.prim EU=none∧tb.fns EU=some M2:=⟨rfl,rfl⟩
theorem WS:tb.prim F7=none∧tb.fns F7=some J2:=⟨rfl,rfl⟩
theorem UO:tb.prim Fh=none∧tb.fns Fh=some I2:=⟨rfl,rfl⟩
theorem gJ:tb.prim FJ=none∧tb.fns FJ=some M6:=⟨rfl,rfl⟩
theorem Jn:tb.prim BH=none∧tb.fns BH=some CQ:=⟨rfl,rfl⟩
theorem LO:tb.prim Cw=none∧tb.fns Cw=some DX:=⟨rfl,rfl⟩
theorem OE:tb.prim DU=none∧tb.fns DU=some Hw:=⟨rfl,rfl⟩
theorem Nl:tb.prim Dw=none∧tb.fns Dw=some G1:=⟨rfl,rfl⟩
theorem MH:tb.prim C8=none∧tb.fns C8=some E1:=⟨rfl,rfl⟩
theorem KV:tb.prim Ck=none∧tb.fns Ck=some Dz:=⟨rfl,rfl⟩
theorem J9:tb.prim Cp=none∧tb.fns Cp=some El:=⟨rfl,rfl⟩
theorem WP:tb.prim F6=none∧tb.fns F6=some Jz:=⟨rfl,rfl⟩
theorem Ym:tb.prim Gx=none∧tb.fns Gx=some Ks:=⟨rfl,rfl⟩
theorem Jm:tb.prim B0=none∧tb.fns B0=some CP:=⟨rfl,rfl⟩
theorem Ql:tb.prim Dc=none∧tb.fns Dc=some Gh:=⟨rfl,rfl⟩
theorem OD:tb.prim DT=none∧tb.fns DT=some Hv:=⟨rfl,rfl⟩
theorem Se:tb.prim D6=none∧tb.fns D6=some H8:=⟨rfl,rfl⟩
theorem E8:tb.prim C0=none∧tb.fns C0=some HQ:=⟨rfl,rfl⟩
theorem KW:tb.prim Cl=none∧tb.fns Cl=some D1:=⟨rfl,rfl⟩
theorem Sc:tb.prim Eu=none∧tb.fns Eu=some H6:=⟨rfl,rfl⟩
theorem KX:tb.prim Cm=none∧tb.fns Cm=some D2:=⟨rfl,rfl⟩
theorem WO:tb.prim F5=none∧tb.fns F5=some Jy:=⟨rfl,rfl⟩
theorem Yl:tb.prim Gw=none∧tb.fns Gw=some Kr:=⟨rfl,rfl⟩
end Go.Proofs.YtobejhpigbllpaaGreatDoor.Am
end
section
set_option linter.unusedVariables false
namespace Go.Proofs.YtobejhpigbllpaaGreatDoor.Am
open Go.Proofs Go.RowKit
set_option maxHeartbeats 2000000 in
set_option maxRecDepth 1000000 in
theorem vP:iQ Tryz.prog 106 5:=by
 intro b n w h1 hb hf hn
 obtain⟨cs,hrun,hle,hmax⟩:=Lib.run_makeNoZero (P:=Tryz.prog) w.drew #[3] 22 5 (by kernel_rfl) n hn
 refine⟨cs,hle,?_⟩
 have hw:IntKind.i64.wrap (IntKind.i64.wrap 0+(n:Int))=n:=by
  rw[IntKind.wrap_i64,IntKind.wrap_i64]
  omega
 have hcall:(callFunc 143 #[.int .i64 (IntKind.i64.wrap (IntKind.i64.wrap 0+(n:Int)))]).run Tryz.prog w.drew= .ok (.value (.slice (some ⟨w.drew.heap.size,0,none⟩) n cs.size)) (w.drew.drew.drew.alloc (.cells cs 5)):=by
  rw[hw,run_callFunc_extern Tryz.func143 (by kernel_rfl) (by kernel_rfl) (by kernel_rfl) (e:=Extern.BytealgMakeNoZero.makeNoZero #[3] #[22]) (by kernel_rfl),hrun]
  rfl
 have c1:w.drew.cell? ⟨b,1,none⟩=some (.slice none 0 0):=h1
 have c2:(w.alloc (.cells cs 5)).cell? ⟨b,1,none⟩=some (.slice none 0 0):=by
  have:(w.alloc (.cells cs 5)).heap[b]? =w.heap[b]? :=(Lib.alloc_old w _ b hb)
  simp only[World.cell?,this];exact h1
 have f2:(w.alloc (.cells cs 5)).frozen? ⟨b,1,none⟩=false:=by
  have:(w.alloc (.cells cs 5)).heap[b]? =w.heap[b]? :=(Lib.alloc_old w _ b hb)
  simp only[World.frozen?,this];exact hf
 have hcopy: ∀W:World,(Builtin.copy_ #[22,22] 3 #[.slice (some ⟨w.heap.size,0,none⟩) 0 cs.size, .slice none 0 0]).run Tryz.prog W= .ok (goInt 0) W:=
  fun W=>run_copy_none W 22 22 3 5 _ _ 0 cs.size 0 0 (by kernel_rfl) (by kernel_rfl) rfl
 clear hw
 go_enter Tryz.func106,Tryz.ntmps106
 go_wp2
 go_region
 all_goals (go_wp2;go_end0;exact⟨rfl,rfl⟩)
end Go.Proofs.YtobejhpigbllpaaGreatDoor.Am
end
section
set_option maxRecDepth 100000
set_option maxHeartbeats 2000000
namespace Go.Proofs.YtobejhpigbllpaaGreatDoor.Am
open Go.Shelf Go.Proofs
def oZ:Ren:=⟨fun|14=>141|16=>173|17=>174|19=>216|20=>217|21=>218|22=>219|23=>220|24=>221|25=>244|26=>245|27=>246|28=>253|29=>254|30=>212|31=>213|32=>214|33=>215|34=>239|35=>240|36=>241|37=>242|38=>243|39=>251|40=>252|n=>n,fun|0=>0|2=>2|3=>3|4=>4|5=>5|9=>9|20=>20|21=>21|22=>81|24=>110|25=>180|34=>245|36=>175|37=>22|39=>247|44=>267|47=>152|48=>273|50=>275|52=>240|55=>243|59=>262|60=>51|61=>263|65=>28|66=>280|67=>113|n=>n,fun|0=>3|1=>4|2=>2|3=>7|4=>8|n=>n⟩
theorem QS:LaysPu.n14 Tryz.prog oZ where
 mixed:=by kernel_rfl
 f14:=Tryz.func141.trans (congrArg some (by kernel_rfl))
 f16:=Tryz.func173.trans (congrArg some (by kernel_rfl))
 f17:=Tryz.func174.trans (congrArg some (by kernel_rfl))
 f19:=Tryz.func216.trans (congrArg some (by kernel_rfl))
 f20:=Tryz.func217.trans (congrArg some (by kernel_rfl))
 f21:=Tryz.func218.trans (congrArg some (by kernel_rfl))
 f22:=Tryz.func219.trans (congrArg some (by kernel_rfl))
 f23:=Tryz.func220.trans (congrArg some (by kernel_rfl))
 f24:=Tryz.func221.trans (congrArg some (by kernel_rfl))
 f25:=Tryz.func244.trans (congrArg some (by kernel_rfl))
 f26:=Tryz.func245.trans (congrArg some (by kernel_rfl))
 f27:=Tryz.func246.trans (congrArg some (by kernel_rfl))
 f28:=Tryz.func253.trans (congrArg some (by kernel_rfl))
 f29:=Tryz.func254.trans (congrArg some (by kernel_rfl))
 f30:=Tryz.func212.trans (congrArg some (by kernel_rfl))
 f31:=Tryz.func213.trans (congrArg some (by kernel_rfl))
 f32:=Tryz.func214.trans (congrArg some (by kernel_rfl))
 f33:=Tryz.func215.trans (congrArg some (by kernel_rfl))
 f34:=Tryz.func239.trans (congrArg some (by kernel_rfl))
 f35:=Tryz.func240.trans (congrArg some (by kernel_rfl))
 f36:=Tryz.func241.trans (congrArg some (by kernel_rfl))
 f37:=Tryz.func242.trans (congrArg some (by kernel_rfl))
 f38:=Tryz.func243.trans (congrArg some (by kernel_rfl))
 f39:=Tryz.func251.trans (congrArg some (by kernel_rfl))
 f40:=Tryz.func252.trans (congrArg some (by kernel_rfl))
 t0:=Tryz.underlying0
 a0:=Tryz.isAgg0
 z0:=Tryz.sizeOf0
 v0:=Tryz.zeroValue0
 i0:=by kernel_rfl
 t2:=Tryz.underlying2
 a2:=Tryz.isAgg2
 z2:=Tryz.sizeOf2
 v2:=Tryz.zeroValue2
 i2:=by kernel_rfl
 t3:=Tryz.underlying3
 a3:=Tryz.isAgg3
 z3:=Tryz.sizeOf3
 v3:=Tryz.zeroValue3
 i3:=by kernel_rfl
 t4:=Tryz.underlying4
 a4:=Tryz.isAgg4
 z4:=Tryz.sizeOf4
 v4:=Tryz.zeroValue4
 i4:=by kernel_rfl
 t5:=Tryz.underlying5
 a5:=Tryz.isAgg5
 z5:=Tryz.sizeOf5
 v5:=Tryz.zeroValue5
 i5:=by kernel_rfl
 t9:=Tryz.underlying9
 a9:=Tryz.isAgg9
 z9:=Tryz.sizeOf9
 v9:=Tryz.zeroValue9
 i9:=by kernel_rfl
 t20:=Tryz.underlying20
 a20:=Tryz.isAgg20
 z20:=Tryz.sizeOf20
 v20:=Tryz.zeroValue20
 i20:=by kernel_rfl
 t21:=Tryz.underlying21
 a21:=Tryz.isAgg21
 z21:=Tryz.sizeOf21
 v21:=Tryz.zeroValue21
 i21:=by kernel_rfl
 t22:=Tryz.underlying81
 a22:=Tryz.isAgg81
 z22:=Tryz.sizeOf81
 v22:=Tryz.zeroValue81
 i22:=by kernel_rfl
 t24:=Tryz.underlying110
 a24:=Tryz.isAgg110
 z24:=Tryz.sizeOf110
 v24:=Tryz.zeroValue110
 i24:=by kernel_rfl
 t25:=Tryz.underlying180
 a25:=Tryz.isAgg180
 z25:=Tryz.sizeOf180
 v25:=Tryz.zeroValue180
 i25:=by kernel_rfl
 t34:=Tryz.underlying245
 a34:=Tryz.isAgg245
 z34:=Tryz.sizeOf245
 v34:=Tryz.zeroValue245
 i34:=by kernel_rfl
 c34:=by kernel_rfl
 t36:=Tryz.underlying175
 a36:=Tryz.isAgg175
 z36:=Tryz.sizeOf175
 v36:=Tryz.zeroValue175
 i36:=by kernel_rfl
 t37:=Tryz.underlying22
 a37:=Tryz.isAgg22
 z37:=Tryz.sizeOf22
 v37:=Tryz.zeroValue22
 i37:=by kernel_rfl
 t39:=Tryz.underlying247
 a39:=Tryz.isAgg247
 z39:=Tryz.sizeOf247
 v39:=Tryz.zeroValue247
 i39:=by kernel_rfl
 t44:=Tryz.underlying267
 a44:=Tryz.isAgg267
 z44:=Tryz.sizeOf267
 v44:=Tryz.zeroValue267
 i44:=by kernel_rfl
 t47:=Tryz.underlying152
 a47:=Tryz.isAgg152
 z47:=Tryz.sizeOf152
 v47:=Tryz.zeroValue152
 i47:=by kernel_rfl
 t48:=Tryz.underlying273
 a48:=Tryz.isAgg273
 z48:=Tryz.sizeOf273
 v48:=Tryz.zeroValue273
 i48:=by kernel_rfl
 t50:=Tryz.underlying275
 a50:=Tryz.isAgg275
 z50:=Tryz.sizeOf275
 v50:=Tryz.zeroValue275
 i50:=by kernel_rfl
 t52:=Tryz.underlying240
 a52:=Tryz.isAgg240
 z52:=Tryz.sizeOf240
 v52:=Tryz.zeroValue240
 i52:=by kernel_rfl
 t55:=Tryz.underlying243
 a55:=Tryz.isAgg243
 z55:=Tryz.sizeOf243
 v55:=Tryz.zeroValue243
 i55:=by kernel_rfl
 t59:=Tryz.underlying262
 a59:=Tryz.isAgg262
 z59:=Tryz.sizeOf262
 v59:=Tryz.zeroValue262
 i59:=by kernel_rfl
 t60:=Tryz.underlying51
 a60:=Tryz.isAgg51
 z60:=Tryz.sizeOf51
 v60:=Tryz.zeroValue51
 i60:=by kernel_rfl
 t61:=Tryz.underlying263
 a61:=Tryz.isAgg263
 z61:=Tryz.sizeOf263
 t65:=Tryz.underlying28
 a65:=Tryz.isAgg28
 z65:=Tryz.sizeOf28
 v65:=Tryz.zeroValue28
 i65:=by kernel_rfl
 t66:=Tryz.underlying280
 a66:=Tryz.isAgg280
 z66:=Tryz.sizeOf280
 v66:=Tryz.zeroValue280
 i66:=by kernel_rfl
 t67:=Tryz.underlying113
 a67:=Tryz.isAgg113
 z67:=Tryz.sizeOf113
 v67:=Tryz.zeroValue113
 i67:=by kernel_rfl
 g0:=by kernel_rfl
 m0:=by kernel_rfl
 g1:=by kernel_rfl
 m1:=by kernel_rfl
 g2:=by kernel_rfl
 m2:=by kernel_rfl
 g3:=by kernel_rfl
 m3:=by kernel_rfl
 g4:=by kernel_rfl
 m4:=by kernel_rfl
theorem pu_run:Zq Tryz.prog 141 3 4:=by
 intro l w eS eR hl c1 t1 c2 t2
 unfold Gk
 cases h:Lib.parseUintB 64 l with
 |ok u=>
  refine(Any.strconv_ParseUint_10_at64_ok QS ⟨l.toArray⟩ (by show l.toArray.size≤_;simp only[List.size_toArray];omega) u (by simpa using h) w).mono ?_
  rintro e w' ⟨rfl,hw⟩
  refine⟨.nilIface,rfl,rfl,?_⟩
  rcases hw with rfl|rfl
  ·exact RowKit.Below.refl _ _
  ·exact Lib.bytesWorld_below _ _ _
 |range=>
  refine(Any.strconv_ParseUint_10_at64_range QS ⟨l.toArray⟩ (by show l.toArray.size≤_;simp only[List.size_toArray];omega) (by simpa using h) eR w c2 (.inr t2)).mono ?_
  rintro e w' ⟨k,rfl,_,_,hb⟩
  exact⟨_,rfl,⟨_,_,rfl⟩,hb⟩
 |_=>
  refine(Any.strconv_ParseUint_10_at64_syntax QS ⟨l.toArray⟩ (by show l.toArray.size≤_;simp only[List.size_toArray];omega) (by simpa using h) eS w c1 (.inr t1)).mono ?_
  rintro e w' ⟨k,rfl,_,_,hb⟩
  exact⟨_,rfl,⟨_,_,rfl⟩,hb⟩
def pA:Ren:=⟨fun|217=>144|219=>187|224=>228|225=>229|266=>175|267=>230|314=>248|n=>n,fun|3=>3|4=>4|5=>5|9=>9|46=>175|51=>51|146=>269|n=>n,fun|1=>1|n=>n⟩
theorem jX:Lays.n219 Tryz.prog pA where
 mixed:=by kernel_rfl
 f217:=Tryz.func144.trans (congrArg some (by kernel_rfl))
 f219:=Tryz.func187.trans (congrArg some (by kernel_rfl))
 f224:=Tryz.func228.trans (congrArg some (by kernel_rfl))
 f225:=Tryz.func229.trans (congrArg some (by kernel_rfl))
 f266:=Tryz.func175.trans (congrArg some (by kernel_rfl))
 f267:=Tryz.func230.trans (congrArg some (by kernel_rfl))
 f314:=Tryz.func248.trans (congrArg some (by kernel_rfl))
 t3:=Tryz.underlying3
 a3:=Tryz.isAgg3
 z3:=Tryz.sizeOf3
 v3:=Tryz.zeroValue3
 t4:=Tryz.underlying4
 a4:=Tryz.isAgg4
 z4:=Tryz.sizeOf4
 v4:=Tryz.zeroValue4
 t5:=Tryz.underlying5
 a5:=Tryz.isAgg5
 z5:=Tryz.sizeOf5
 v5:=Tryz.zeroValue5
 t9:=Tryz.underlying9
 a9:=Tryz.isAgg9
 z9:=Tryz.sizeOf9
 v9:=Tryz.zeroValue9
 t46:=Tryz.underlying175
 a46:=Tryz.isAgg175
 z46:=Tryz.sizeOf175
 v46:=Tryz.zeroValue175
 t51:=Tryz.underlying51
 a51:=Tryz.isAgg51
 z51:=Tryz.sizeOf51
 v51:=Tryz.zeroValue51
 t146:=Tryz.underlying269
 a146:=Tryz.isAgg269
 z146:=Tryz.sizeOf269
 v146:=Tryz.zeroValue269
 g1:=by kernel_rfl
theorem ix_run:Zr Tryz.prog 187 1:=by
 intro a b w m hl hm
 have h:=Any.stringslite_Index jX ⟨a.toArray⟩ ⟨b.toArray⟩ m w (by show a.toArray.size<_;simpa using hl) hm
 simp at h
 exact h
end Go.Proofs.YtobejhpigbllpaaGreatDoor.Am
end
section
set_option linter.unusedVariables false
set_option maxRecDepth 100000
set_option maxHeartbeats 4000000
namespace Go.Proofs.YtobejhpigbllpaaGreatDoor.Am
open Go.Proofs
theorem Ta:B8 (BC Tryz.prog) Tryz.prog Ie EF=true:=by kernel_rfl
theorem kK:B8 (BC Tryz.prog) Tryz.prog Oh IQ=true:=by kernel_rfl
theorem eY:B8 (BC Tryz.prog) Tryz.prog M5 FI=true:=by kernel_rfl
theorem eO:B8 (BC Tryz.prog) Tryz.prog Mx Ia=true:=by kernel_rfl
theorem aB:B8 (BC Tryz.prog) Tryz.prog Lo FW=true:=by kernel_rfl
theorem XS:B8 (BC Tryz.prog) Tryz.prog Km Fl=true:=by kernel_rfl
theorem XT:B8 (BC Tryz.prog) Tryz.prog Kn Gu=true:=by kernel_rfl
theorem kC:B8 (BC Tryz.prog) Tryz.prog NY IL=true:=by kernel_rfl
theorem kD:B8 (BC Tryz.prog) Tryz.prog NZ HI=true:=by kernel_rfl
theorem aC:B8 (BC Tryz.prog) Tryz.prog Lp Hm=true:=by kernel_rfl
theorem eP:B8 (BC Tryz.prog) Tryz.prog My GK=true:=by kernel_rfl
theorem UF:B8 (BC Tryz.prog) Tryz.prog La DB=true:=by kernel_rfl
theorem Wt:B8 (BC Tryz.prog) Tryz.prog Jv Ee=true:=by kernel_rfl
theorem XV:B8 (BC Tryz.prog) Tryz.prog Kp Fm=true:=by kernel_rfl
theorem ZZ:B8 (BC Tryz.prog) Tryz.prog Ln Hl=true:=by kernel_rfl
theorem aE:B8 (BC Tryz.prog) Tryz.prog Lr FX=true:=by kernel_rfl
theorem eT:B8 (BC Tryz.prog) Tryz.prog M0 Ib=true:=by kernel_rfl
theorem kB:B8 (BC Tryz.prog) Tryz.prog NX EY=true:=by kernel_rfl
theorem kE:B8 (BC Tryz.prog) Tryz.prog Oa HJ=true:=by kernel_rfl
theorem kI:B8 (BC Tryz.prog) Tryz.prog Of Ef=true:=by kernel_rfl
theorem kJ:B8 (BC Tryz.prog) Tryz.prog Og IP=true:=by kernel_rfl
theorem Ya:B8 (BC Tryz.prog) Tryz.prog Ku Gz=true:=by kernel_rfl
theorem eQ:B8 (BC Tryz.prog) Tryz.prog Mz GL=true:=by kernel_rfl
theorem aA:B8 (BC Tryz.prog) Tryz.prog NW Ez=true:=by kernel_rfl
theorem kA:B8 (BC Tryz.prog) Tryz.prog Rm IK=true:=by kernel_rfl
theorem eN:B8 (BC Tryz.prog) Tryz.prog Py HZ=true:=by kernel_rfl
theorem eL:B8 (BC Tryz.prog) Tryz.prog Px Jk=true:=by kernel_rfl
theorem ME:B8 (BC Tryz.prog) Tryz.prog Ga Dk=true:=by kernel_rfl
theorem J7:B8 (BC Tryz.prog) Tryz.prog Ek B5=true:=by kernel_rfl
theorem LJ:B8 (BC Tryz.prog) Tryz.prog Fo Cv=true:=by kernel_rfl
theorem eX:B8 (BC Tryz.prog) Tryz.prog M4 EV=true:=by kernel_rfl
theorem eU:B8 (BC Tryz.prog) Tryz.prog M1 ET=true:=by kernel_rfl
theorem kF:B8 (BC Tryz.prog) Tryz.prog Oc HK=true:=by kernel_rfl
theorem Tb:B8 (BC Tryz.prog) Tryz.prog Ig DV=true:=by kernel_rfl
theorem Ws:B8 (BC Tryz.prog) Tryz.prog Ju AS=true:=by kernel_rfl
theorem Wu:B8 (BC Tryz.prog) Tryz.prog Jw EI=true:=by kernel_rfl
theorem Wr:B8 (BC Tryz.prog) Tryz.prog LU AW=true:=by kernel_rfl
theorem Wp:B8 (BC Tryz.prog) Tryz.prog Jt F4=true:=by kernel_rfl
theorem Wq:B8 (BC Tryz.prog) Tryz.prog LT AU=true:=by kernel_rfl
theorem ZY:B8 (BC Tryz.prog) Tryz.prog Lm Ct=true:=by kernel_rfl
theorem UI:B8 (BC Tryz.prog) Tryz.prog I1 Fg=true:=by kernel_rfl
theorem ZX:B8 (BC Tryz.prog) Tryz.prog NV C4=true:=by kernel_rfl
theorem Tc:B8 (BC Tryz.prog) Tryz.prog Ih EG=true:=by kernel_rfl
theorem ZW:B8 (BC Tryz.prog) Tryz.prog NU C3=true:=by kernel_rfl
theorem XR:B8 (BC Tryz.prog) Tryz.prog Kl BP=true:=by kernel_rfl
theorem kL:B8 (BC Tryz.prog) Tryz.prog Oi IR=true:=by kernel_rfl
theorem XQ:B8 (BC Tryz.prog) Tryz.prog MP Ci=true:=by kernel_rfl
theorem UH:B8 (BC Tryz.prog) Tryz.prog Iz Ff=true:=by kernel_rfl
theorem XP:B8 (BC Tryz.prog) Tryz.prog MO Ch=true:=by kernel_rfl
theorem XO:B8 (BC Tryz.prog) Tryz.prog Kk Da=true:=by kernel_rfl
theorem Wy:B8 (BC Tryz.prog) Tryz.prog J0 Eg=true:=by kernel_rfl
theorem XN:B8 (BC Tryz.prog) Tryz.prog MN Dv=true:=by kernel_rfl
theorem Wz:B8 (BC Tryz.prog) Tryz.prog J1 Eh=true:=by kernel_rfl
theorem eM:B8 (BC Tryz.prog) Tryz.prog Mw GJ=true:=by kernel_rfl
theorem XM:B8 (BC Tryz.prog) Tryz.prog MM Du=true:=by kernel_rfl
theorem K7:B8 (BC Tryz.prog) Tryz.prog EB BE=true:=by kernel_rfl
theorem Qf:B8 (BC Tryz.prog) Tryz.prog Gg Db=true:=by kernel_rfl
theorem kG:B8 (BC Tryz.prog) Tryz.prog Od IM=true:=by kernel_rfl
theorem kH:B8 (BC Tryz.prog) Tryz.prog Oe IN=true:=by kernel_rfl
theorem aI:B8 (BC Tryz.prog) Tryz.prog Lv EZ=true:=by kernel_rfl
theorem QU:B8 (BC Tryz.prog) Tryz.prog GT Ea=true:=by kernel_rfl
theorem K8:B8 (BC Tryz.prog) Tryz.prog EC BZ=true:=by kernel_rfl
theorem Wv:B8 (BC Tryz.prog) Tryz.prog Jx EJ=true:=by kernel_rfl
theorem aH:B8 (BC Tryz.prog) Tryz.prog Lu Hp=true:=by kernel_rfl
theorem fA:B8 (BC Tryz.prog) Tryz.prog M7 GM=true:=by kernel_rfl
theorem RP:B8 (BC Tryz.prog) Tryz.prog H7 Ev=true:=by kernel_rfl
theorem aJ:B8 (BC Tryz.prog) Tryz.prog Lw Hq=true:=by kernel_rfl
theorem qB:B8 (BC Tryz.prog) Tryz.prog PV JT=true:=by kernel_rfl
theorem Pe:B8 (BC Tryz.prog) Tryz.prog FL Ds=true:=by kernel_rfl
theorem Td:B8 (BC Tryz.prog) Tryz.prog Ii EH=true:=by kernel_rfl
theorem Jd:B8 (BC Tryz.prog) Tryz.prog CO BG=true:=by kernel_rfl
theorem aD:B8 (BC Tryz.prog) Tryz.prog Lq Hn=true:=by kernel_rfl
theorem pZ:B8 (BC Tryz.prog) Tryz.prog PT IB=true:=by kernel_rfl
theorem qA:B8 (BC Tryz.prog) Tryz.prog PU HL=true:=by kernel_rfl
theorem fB:B8 (BC Tryz.prog) Tryz.prog M8 GN=true:=by kernel_rfl
theorem UG:B8 (BC Tryz.prog) Tryz.prog Iy Fe=true:=by kernel_rfl
theorem XW:B8 (BC Tryz.prog) Tryz.prog Kq E7=true:=by kernel_rfl
theorem eW:B8 (BC Tryz.prog) Tryz.prog M3 Ic=true:=by kernel_rfl
theorem aG:B8 (BC Tryz.prog) Tryz.prog Lt Ho=true:=by kernel_rfl
theorem Qh:B8 (BC Tryz.prog) Tryz.prog Gi DC=true:=by kernel_rfl
theorem XU:B8 (BC Tryz.prog) Tryz.prog Ko Gv=true:=by kernel_rfl
theorem XZ:B8 (BC Tryz.prog) Tryz.prog Kt Gy=true:=by kernel_rfl
theorem kM:B8 (BC Tryz.prog) Tryz.prog Oj IS=true:=by kernel_rfl
theorem aF:B8 (BC Tryz.prog) Tryz.prog Ls FY=true:=by kernel_rfl
theorem K9:B8 (BC Tryz.prog) Tryz.prog Dq Ca=true:=by kernel_rfl
theorem eV:B8 (BC Tryz.prog) Tryz.prog M2 EU=true:=by kernel_rfl
theorem W0:B8 (BC Tryz.prog) Tryz.prog J2 F7=true:=by kernel_rfl
theorem UJ:B8 (BC Tryz.prog) Tryz.prog I2 Fh=true:=by kernel_rfl
theorem eZ:B8 (BC Tryz.prog) Tryz.prog M6 FJ=true:=by kernel_rfl
theorem Jf:B8 (BC Tryz.prog) Tryz.prog CQ BH=true:=by kernel_rfl
theorem LK:B8 (BC Tryz.prog) Tryz.prog DX Cw=true:=by kernel_rfl
theorem OC:B8 (BC Tryz.prog) Tryz.prog Hw DU=true:=by kernel_rfl
theorem Nc:B8 (BC Tryz.prog) Tryz.prog G1 Dw=true:=by kernel_rfl
theorem MF:B8 (BC Tryz.prog) Tryz.prog E1 C8=true:=by kernel_rfl
theorem KR:B8 (BC Tryz.prog) Tryz.prog Dz Ck=true:=by kernel_rfl
theorem J8:B8 (BC Tryz.prog) Tryz.prog El Cp=true:=by kernel_rfl
theorem Wx:B8 (BC Tryz.prog) Tryz.prog Jz F6=true:=by kernel_rfl
theorem XY:B8 (BC Tryz.prog) Tryz.prog Ks Gx=true:=by kernel_rfl
theorem Je:B8 (BC Tryz.prog) Tryz.prog CP B0=true:=by kernel_rfl
theorem Qg:B8 (BC Tryz.prog) Tryz.prog Gh Dc=true:=by kernel_rfl
theorem OB:B8 (BC Tryz.prog) Tryz.prog Hv DT=true:=by kernel_rfl
theorem RQ:B8 (BC Tryz.prog) Tryz.prog H8 D6=true:=by kernel_rfl
theorem Pg:B8 (BC Tryz.prog) Tryz.prog HQ C0=true:=by kernel_rfl
theorem KS:B8 (BC Tryz.prog) Tryz.prog D1 Cl=true:=by kernel_rfl
theorem RO:B8 (BC Tryz.prog) Tryz.prog H6 Eu=true:=by kernel_rfl
theorem KT:B8 (BC Tryz.prog) Tryz.prog D2 Cm=true:=by kernel_rfl
theorem Ww:B8 (BC Tryz.prog) Tryz.prog Jy F5=true:=by kernel_rfl
theorem XX:B8 (BC Tryz.prog) Tryz.prog Kr Gw=true:=by kernel_rfl
theorem I8:lI Tryz.prog C5=some Extern.BytealgIndexByte.indexByte:=by kernel_rfl
theorem Nd:lI Tryz.prog FZ=some Extern.AbiNoEscape.same:=by kernel_rfl
theorem MD:gQ Tryz.prog F0=true:=by kernel_rfl
theorem Qi:gQ Tryz.prog FH=true:=by kernel_rfl
theorem KQ:gQ Tryz.prog C7=true:=by kernel_rfl
theorem fits:Fits (BC Tryz.prog) Tryz.prog tb:=by
 refine⟨by kernel_rfl,fun ao o h=>pS ao o h,fun g p h=> ?_,fun g cs h=>(by
  have hm:=Pa h
  have all: ∀x∈gll,Bu x.2=0:=by
   simp only[gll,List.forall_mem_cons]
   exact⟨gm_2,gm_3,gm_4,fun x h=>(by cases h)⟩
  exact all _ hm),fun g fn h=> ?_⟩
 ·have hm:=Pa h
  have all: ∀x∈prl,Fs Tryz.prog tb fun g args h=>if g=x.1 then x.2 args h else none:=by
   simp only[prl,List.forall_mem_cons]
   exact⟨VY I8,pL Nd,pM MD vP,jG Qi rfl rfl pu_run,dQ KQ (List.Mem.head _) ix_run,fun x h=>(by cases h)⟩
  exact all _ hm
 have hm:=Pa h
 have all: ∀x∈fnl,B8 (BC Tryz.prog) Tryz.prog x.2 x.1=true:=by
  simp only[fnl,List.forall_mem_cons]
  exact⟨Ta,kK,eY,eO,aB,XS,XT,kC,kD,aC,eP,UF,Wt,XV,ZZ,aE,eT,kB,kE,kI,kJ,Ya,eQ,aA,kA,eN,eL,ME,J7,LJ,eX,eU,kF,Tb,Ws,Wu,Wr,Wp,Wq,ZY,UI,ZX,Tc,ZW,XR,kL,XQ,UH,XP,XO,Wy,XN,Wz,eM,XM,K7,Qf,kG,kH,aI,QU,K8,Wv,aH,fA,RP,aJ,qB,Pe,Td,Jd,aD,pZ,qA,fB,UG,XW,eW,aG,Qh,XU,XZ,kM,aF,K9,eV,W0,UJ,eZ,Jf,LK,OC,Nc,MF,KR,J8,Wx,XY,Je,Qg,OB,RQ,Pg,KS,RO,KT,Ww,XX,fun x h=>(by cases h)⟩
 exact all _ hm
end Go.Proofs.YtobejhpigbllpaaGreatDoor.Am
end
namespace Go.Proofs.YtobejhpigbllpaaGreatDoor.Am
def Xb(P:Program):Nat→List Field→Option Nat
 |pos,[]=>some pos
 |pos,f::fs=>if Nat.beq f.offset pos then Xb P (pos+P.cellsOf f.type) fs else none
def Jc(P:Program):Nat→TypeId→Bool
 |0,_=>false
 |n+1,t=>
  match P.underlying t with
  |some .bool=>Nat.beq (P.cellsOf t) 1
  |some (.int _)=>Nat.beq (P.cellsOf t) 1
  |some .string=>Nat.beq (P.cellsOf t) 1
  |some (.pointer e)=>Nat.beq (P.cellsOf t) 1&&Nat.blt 0 (P.cellsOf e)&&Jc P n e
  |some (.slice e)=>Nat.beq (P.cellsOf t) 1&&Nat.blt 0 (P.cellsOf e)&&Jc P n e
  |some (.struct fs)=>decide (Xb P 0 fs.toList=some (P.cellsOf t))&&fs.toList.all fun f=>Jc P n f.type
  |some (.array m e)=>Nat.beq (P.cellsOf t) (m*P.cellsOf e)&&Jc P n e
  |_=>false
def bW(T:TypeId→List AV→Prop):List Field→List AV→Prop
 |[],cs=>cs=[]
 |f::fs,cs=> ∃a b,cs=a++b∧T f.type a∧bW T fs b
def G4(P:Program):Nat→TypeId→List AV→Prop
 |0,_,_=>False
 |n+1,t,cs=>
  match P.underlying t with
  |some .bool=> ∃b,cs=[.b b]
  |some (.int k)=> ∃x,cs=[.i k x]∧k.has x
  |some .string=> ∃l,cs=[.s l]
  |some (.pointer e)=>cs=[.nilp]∨ ∃ds,cs=[.ip ds 0]∧G4 P n e ds
  |some (.slice e)=>cs=[.nils]∨ ∃els:List (List AV),cs=[.sl (P.cellsOf e) els]∧ ∀x∈els,G4 P n e x
  |some (.struct fs)=>bW (G4 P n) fs.toList cs
  |some (.array m e)=> ∃els:List (List AV),els.length=m∧cs=els.flatten∧ ∀x∈els,G4 P n e x
  |_=>False
section
variable{P:Program}{H:Type}{enc:TypeId×Value→H}{w:World}{spare:Nat→Bool}{held:Bool}
theorem Ur{base:Nat}{a:Addr}{n:Nat}{cs:List Value}(h:w.cells? base a n=some cs):cs.length=n∧ ∀(j:Nat) (v:Value),cs[j]? =some v→w.cell? (a.add j)=some v:=by
 unfold World.cells? at h
 split at h
 ·refine⟨by rw[mapM_some_length h];simp,fun j v hj=> ?_⟩
  have hl:j<n:=by have:=Bb hj;rw[mapM_some_length h]at this;simpa using this
  have:=mapM_some_get h j j (by simp[hl])
  rw[this,hj]
 ·cases h
theorem wO{a:Addr}{v:Value}(h:w.cell? a=some v):a.spot=none∧a.block<w.heap.size:=by
 unfold World.cell? at h
 split at h
 ·rename_i c e fr hb
  refine⟨?_,(Array.getElem?_eq_some_iff.1 hb).1⟩
  split at h
  ·cases h
  ·rename_i hs;simpa using hs
 ·cases h
theorem Sk{base:Nat}{a:Addr}{n:Nat}{cs:List Value}(h:w.cells? base a n=some cs)(hn:0<n): ∃b off,a=⟨b,off,none⟩∧b<w.heap.size∧DY w b off cs∧cs.length=n:=by
 obtain⟨h1,h2⟩:=Ur h
 obtain⟨b,off,sp⟩:=a
 have h0:=h2 0 cs[0] (by simp)
 have:=wO h0
 simp only[Addr.add,if_true]at this
 obtain⟨rfl,hlt⟩:=this
 exact⟨b,off,rfl,hlt,fun j v hj=>by have:=h2 j v hj;rwa [G3]at this,h1⟩
theorem lV{p:Nat→List AV→List Value→Prop}: ∀(len:Nat),(∀i,i<len→ ∃x y,p i x y)→ ∃(xs:List (List AV)) (ys:List (List Value)),xs.length=len∧ys.length=len∧ ∀(i:Nat) x y,xs[i]? =some x→ys[i]? =some y→p i x y
 |0,_=>⟨[],[],rfl,rfl,fun i x y h=>by simp at h⟩
 |n+1,h=>by
  obtain⟨xs,ys,h1,h2,h3⟩:=lV n fun i hi=>h i (by omega)
  obtain⟨x,y,hp⟩:=h n (by omega)
  refine⟨xs++[x],ys++[y],by simp[h1],by simp[h2],fun i u v hu hv=> ?_⟩
  by_cases hi:i<n
  ·rw[List.getElem?_append_left (by omega)]at hu hv
   exact h3 i u v hu hv
  ·have hlt:=Bb hu
   simp only[List.length_append,List.length_cons,List.length_nil]at hlt
   obtain rfl:i=n:=by omega
   rw[List.getElem?_append_right (by omega),h1]at hu
   rw[List.getElem?_append_right (by omega),h2]at hv
   simp only[Nat.sub_self,List.getElem?_cons_zero,Option.some.injEq]at hu hv
   subst hu;subst hv
   exact hp
theorem VO{C:D4}: ∀{xs:List (List AV)} {ys:List (List Value)},xs.length=ys.length→(∀(i:Nat) x y,xs[i]? =some x→ys[i]? =some y→Bg C x y)→AY C xs ys
 |[],[],_,_=>rfl
 |[],_::_,h,_=>by simp at h
 |_::_,[],h,_=>by simp at h
 |x::xs,y::ys,h,k=>⟨y,ys,rfl,k 0 x y rfl rfl,VO (by simpa using h) fun i u v hu hv=>k (i+1) u v (by simpa using hu) (by simpa using hv)⟩
theorem WH{sz:Nat}: ∀(l:List (List Value)),(∀y∈l,y.length=sz)→ ∀(j:Nat) (v:Value),l.flatten[j]? =some v→ ∃(i r:Nat) (y:List Value),j=i*sz+r∧l[i]? =some y∧y[r]? =some v
 |[],_,j,v,h=>by simp at h
 |y::l,hy,j,v,h=>by
  rw[List.flatten_cons]at h
  have hyl:=hy y List.mem_cons_self
  rcases Nat.lt_or_ge j y.length with hlt|hge
  ·rw[List.getElem?_append_left hlt]at h
   exact⟨0,j,y,by simp,rfl,h⟩
  ·rw[List.getElem?_append_right hge]at h
   obtain⟨i,r,u,h1,h2,h3⟩:=WH l (fun z hz=>hy z (List.mem_cons_of_mem _ hz)) _ _ h
   exact⟨i+1,r,u,by rw[Nat.succ_mul];omega,by simpa using h2,h3⟩
theorem dV(φ:Nat→Place)(w:World)(b:Nat): ¬(⟨φ,[],w⟩:D4).own b:=by
 rintro⟨id,h,_⟩
 exact absurd h (Nat.not_lt_zero _)
def Reads(P:Program)(φ:Nat→Place)(w:World)(n:Nat)(t:TypeId)(cs:List Value):Prop:=
 ∃cs1:List AV,G4 P n t cs1∧Bg ⟨φ,[],w⟩ cs1 cs∧cs1.all scal=true∧cs.length=P.cellsOf t
theorem R9(φ:Nat→Place)(n:Nat)(T: ∀f:Field,Jc P n f.type=true→ ∀cs:List Value,(∃fuel x,DataW.trod enc P w 0 spare held fuel f.type cs=some x)→Reads P φ w n f.type cs):
  ∀(fs:List Field) (pos tot:Nat) (cs:List Value),fs.all (fun f=>Jc P n f.type)=true→Xb P pos fs=some tot→cs.length=tot→
   (∀f∈fs,∃fuel x,DataW.trod enc P w 0 spare held fuel f.type ((cs.drop f.offset).take (P.cellsOf f.type))=some x)→
   ∃cs1:List AV,bW (G4 P n) fs cs1∧Bg ⟨φ,[],w⟩ cs1 (cs.drop pos)∧cs1.all scal=true
 |[],pos,tot,cs,_,hc,hl,_=>by
  simp only[Xb,Option.some.injEq]at hc
  subst hc
  exact⟨[],rfl,by rw[List.drop_of_length_le (by omega)];rfl,rfl⟩
 |f::fs,pos,tot,cs,hp,hc,hl,hr=>by
  simp only[List.all_cons,Bool.and_eq_true]at hp
  simp only[Xb]at hc
  split at hc
  ·rename_i ho
   rw[Nat.beq_eq]at ho
   obtain⟨cs1,t1,r1,s1,l1⟩:=T f hp.1 _ (hr f List.mem_cons_self)
   obtain⟨bs,t2,r2,s2⟩:=R9 φ n T fs _ tot cs hp.2 hc hl fun g hg=>hr g (List.mem_cons_of_mem _ hg)
   refine⟨cs1++bs,⟨cs1,bs,rfl,t1,t2⟩,?_,by simp only[List.all_append,s1,s2,Bool.and_self]⟩
   rw[ho]at r1 l1
   have hsplit:cs.drop pos=(cs.drop pos).take (P.cellsOf f.type)++cs.drop (pos+P.cellsOf f.type):=by
    rw[←List.drop_drop,List.take_append_drop]
   rw[hsplit]
   exact Bg.app r1 r2
  ·cases hc
theorem OI(φ:Nat→Place): ∀(n:Nat) (t:TypeId),Jc P n t=true→ ∀(fuel:Nat) (cs:List Value) (x:DataW H×List MemPlace),DataW.trod enc P w 0 spare held fuel t cs=some x→Reads P φ w n t cs
 |0,_,h=>by simp[Jc]at h
 |n+1,t,h=>by
  intro fuel cs x hx
  simp only[Jc]at h
  cases hu:P.underlying t with
  |none=>rw[hu]at h;simp at h
  |some d=>
   rw[hu]at h
   cases fuel with
   |zero=>simp[DataW.trod]at hx
   |succ fuel=>
    cases d<;>simp only[Bool.false_eq_true]at h
    case bool=>
     rw[Nat.beq_eq]at h
     rcases cs with _|⟨v,_|⟨u,r⟩⟩
     ·simp[DataW.trod,hu]at hx
     ·cases v<;>simp[DataW.trod,hu]at hx
      rename_i b
      exact⟨[.b b],by simp only[G4,hu];exact⟨b,rfl⟩,⟨_,_,rfl,rfl,rfl⟩,rfl,h.symm⟩
     ·cases v<;>simp[DataW.trod,hu]at hx
    case int k=>
     rw[Nat.beq_eq]at h
     rcases cs with _|⟨v,_|⟨u,r⟩⟩
     ·simp[DataW.trod,hu]at hx
     ·cases v<;>simp[DataW.trod,hu]at hx
      rename_i k' z
      obtain⟨⟨rfl,hwf⟩,_⟩:=hx
      refine⟨[.i k' z],?_,⟨_,_,rfl,rfl,rfl⟩,rfl,h.symm⟩
      simp only[G4,hu]
      simp only[Lit.wf,Bool.and_eq_true,decide_eq_true_eq]at hwf
      exact⟨z,rfl,hwf⟩
     ·cases v<;>simp[DataW.trod,hu]at hx
    case string=>
     rw[Nat.beq_eq]at h
     rcases cs with _|⟨v,_|⟨u,r⟩⟩
     ·simp[DataW.trod,hu]at hx
     ·cases v<;>simp[DataW.trod,hu]at hx
      rename_i b
      exact⟨[.s b.data.toList],by simp only[G4,hu];exact⟨_,rfl⟩,⟨_,_,rfl,by simp[Gc],rfl⟩,rfl,h.symm⟩
     ·cases v<;>simp[DataW.trod,hu]at hx
    case pointer e=>
     simp only[Bool.and_eq_true,Nat.beq_eq,Nat.blt_eq]at h
     obtain⟨⟨h1,h2⟩,h3⟩:=h
     rcases cs with _|⟨v,_|⟨u,r⟩⟩
     ·simp[DataW.trod,hu]at hx
     ·cases v<;>try (simp[DataW.trod,hu]at hx;done)
      rename_i p
      cases p with
      |none=>exact⟨[.nilp],by simp only[G4,hu];left;trivial,⟨_,_,rfl,rfl,rfl⟩,rfl,h1.symm⟩
      |some p=>
       simp only[DataW.trod,hu]at hx
       obtain⟨y,hy,_⟩:=Option.map_eq_some_iff.1 hx
       obtain⟨cs',hc,ht⟩:=Option.bind_eq_some_iff.1 hy
       obtain⟨b,off,rfl,hlt,hh,hl⟩:=Sk hc h2
       obtain⟨cs1,t1,r1,s1,l1⟩:=OI φ n e h3 fuel cs' y ht
       refine⟨[.ip cs1 0],by simp only[G4,hu];exact .inr ⟨cs1,rfl,t1⟩,⟨_,_,rfl,⟨b,off,cs',rfl,hlt,dV φ w b,hh,s1,r1⟩,rfl⟩,rfl,h1.symm⟩
     ·cases v<;>simp[DataW.trod,hu]at hx
    case slice e=>
     simp only[Bool.and_eq_true,Nat.beq_eq,Nat.blt_eq]at h
     obtain⟨⟨h1,h2⟩,h3⟩:=h
     rcases Go.Deep.open_slice hu hx with ⟨rfl,_⟩|⟨a,len,cap,m,n',D,Pl,rfl,hb,hl,hm,hmm,rfl,hel⟩
     ·exact⟨[.nils],by simp only[G4,hu];left;trivial,⟨_,_,rfl,rfl,rfl⟩,rfl,h1.symm⟩
     ·have hlm:len≤m:=by rw[hmm];split<;>omega
      obtain⟨xs,ys,x1,y1,hp⟩:=lV (p:=fun i x y=>G4 P n e x∧Bg ⟨φ,[],w⟩ x y∧x.all scal=true∧y.length=P.cellsOf e∧w.cells? 0 (a.add (i*P.cellsOf e)) (P.cellsOf e)=some y) len fun i hi=>by
       obtain⟨cs',c1,c2⟩:=hel i (by omega)
       obtain⟨cs1,t1,r1,s1,l1⟩:=OI φ n e h3 n' cs' _ c2
       exact⟨cs1,cs',t1,r1,s1,l1,c1⟩
      have getx: ∀x∈xs,∃(i:Nat) (y:List Value),xs[i]? =some x∧ys[i]? =some y:=by
       intro x hx
       obtain⟨i,hi⟩:=List.mem_iff_getElem?.1 hx
       have:=Bb hi
       exact⟨i,ys[i]'(by omega),hi,List.getElem?_eq_getElem (by omega)⟩
      have gety: ∀y∈ys,y.length=P.cellsOf e:=by
       intro y hy
       obtain⟨i,hi⟩:=List.mem_iff_getElem?.1 hy
       have:=Bb hi
       exact(hp i (xs[i]'(by omega)) y (List.getElem?_eq_getElem (by omega)) hi).2.2.2.1
      refine⟨[.sl (P.cellsOf e) xs],?_,⟨_,_,rfl,?_,rfl⟩,rfl,h1.symm⟩
      ·simp only[G4,hu]
       refine .inr ⟨xs,rfl,fun x hx=> ?_⟩
       obtain⟨i,y,hi,hy⟩:=getx x hx
       exact(hp i x y hi hy).1
      ·by_cases h0:len=0
       ·subst h0
        exact .inr ⟨List.eq_nil_of_length_eq_zero x1,a,cap,rfl⟩
       ·have hpos:0<len:=by omega
        obtain⟨y0,hy0⟩: ∃y,ys[0]? =some y:=⟨_,List.getElem?_eq_getElem (by omega)⟩
        obtain⟨x0,hx0⟩: ∃y,xs[0]? =some y:=⟨_,List.getElem?_eq_getElem (by omega)⟩
        have hc0:=(hp 0 x0 y0 hx0 hy0).2.2.2.2
        simp only[Nat.zero_mul,Addr.add,if_true]at hc0
        obtain⟨b,off,rfl,hlt,_,_⟩:=Sk hc0 h2
        refine .inl ⟨b,off,cap,ys,by rw[x1],by rw[x1];exact hl,hlt,dV φ w b,?_,fun x hx=> ?_,VO (by rw[x1,y1]) fun i x y hi hy=>(hp i x y hi hy).2.1⟩
        ·intro j v hj
         obtain⟨i,r,y,rfl,hy,hr⟩:=WH ys gety j v hj
         have hi:=Bb hy
         have hc:=(hp i (xs[i]'(by omega)) y (List.getElem?_eq_getElem (by omega)) hy).2.2.2.2
         have:=(Ur hc).2 r v hr
         rwa [G3,G3,Nat.add_assoc]at this
        ·obtain⟨i,y,hi,hy⟩:=getx x hx
         have:=hp i x y hi hy
         exact⟨by rw[←this.2.1.length];exact this.2.2.2.1,this.2.2.1⟩
    case struct fs=>
     simp only[Bool.and_eq_true,decide_eq_true_eq]at h
     obtain⟨h1,h2⟩:=h
     simp only[DataW.trod,hu]at hx
     split at hx
     ·rename_i hl
      obtain⟨xs,hxs,_⟩:=Option.map_eq_some_iff.1 hx
      obtain⟨cs1,t1,r1,s1⟩:=R9 (enc:=enc) (spare:=spare) (held:=held) φ n (fun f hf cs hh=>by obtain⟨fl,x,hh⟩:=hh;exact OI φ n f.type hf fl cs x hh) fs.toList 0 _ cs h2 h1 hl fun f hf=>by
       obtain⟨i,hi⟩:=List.mem_iff_getElem?.1 hf
       have:=mapM_some_get hxs i f hi
       have hlen:=mapM_some_length hxs
       have hi':=Bb hi
       rw[List.getElem?_eq_getElem (by omega)]at this
       exact⟨fuel,_,this⟩
      exact⟨cs1,by simp only[G4,hu];exact t1,by simpa using r1,s1,hl⟩
     ·cases hx
    case array m e=>
     simp only[Bool.and_eq_true,Nat.beq_eq]at h
     obtain⟨h1,h2⟩:=h
     simp only[DataW.trod,hu]at hx
     split at hx
     ·rename_i hl
      obtain⟨xs,hxs,_⟩:=Option.map_eq_some_iff.1 hx
      have hxl:=mapM_some_length hxs
      simp only[List.length_range]at hxl
      obtain⟨els,ys,x1,y1,hp⟩:=lV (p:=fun i x y=>G4 P n e x∧Bg ⟨φ,[],w⟩ x y∧x.all scal=true∧y=(cs.drop (i*P.cellsOf e)).take (P.cellsOf e)∧y.length=P.cellsOf e) m fun i hi=>by
       have:=mapM_some_get hxs i i (by simp[hi])
       rw[List.getElem?_eq_getElem (by omega)]at this
       obtain⟨cs1,t1,r1,s1,l1⟩:=OI φ n e h2 fuel _ _ this
       exact⟨cs1,_,t1,r1,s1,rfl,l1⟩
      have hys: ∀k,k≤m→(ys.take k).flatten=cs.take (k*P.cellsOf e):=by
       intro k
       induction k with
       |zero=>intro _;simp
       |succ k ih=>
        intro hk
        obtain⟨y,hy⟩: ∃y,ys[k]? =some y:=⟨_,List.getElem?_eq_getElem (by omega)⟩
        have:=hp k (els[k]'(by omega)) y (List.getElem?_eq_getElem (by omega)) hy
        rw[List.take_add_one,hy,List.flatten_append,ih (by omega)]
        simp only[Option.toList_some,List.flatten_cons,List.flatten_nil,List.append_nil]
        rw[this.2.2.2.1,Nat.succ_mul,List.take_add]
      have hfl:ys.flatten=cs:=by
       have:=hys m (Nat.le_refl _)
       rwa [List.take_of_length_le (by omega),List.take_of_length_le (by omega)]at this
      refine⟨els.flatten,?_,?_,?_,hl⟩
      ·simp only[G4,hu]
       refine⟨els,x1,rfl,fun x hx=> ?_⟩
       obtain⟨i,hi⟩:=List.mem_iff_getElem?.1 hx
       have:=Bb hi
       exact(hp i x (ys[i]'(by omega)) hi (List.getElem?_eq_getElem (by omega))).1
      ·have:=AY.flat (VO (C:=⟨φ,[],w⟩) (by rw[x1,y1]) fun i x y hi hy=>(hp i x y hi hy).2.1)
       rwa [hfl]at this
      ·refine L7 fun x hx=> ?_
       obtain⟨i,hi⟩:=List.mem_iff_getElem?.1 hx
       have:=Bb hi
       exact(hp i x (ys[i]'(by omega)) hi (List.getElem?_eq_getElem (by omega))).2.2.1
     ·cases hx
end
end Go.Proofs.YtobejhpigbllpaaGreatDoor.Am
namespace Go.Proofs.YtobejhpigbllpaaGreatDoor.Am
section
variable{T:Im→Oper→Bool}{P:Program}{tb:Dg}
def TB(P:Program)(n:Nat)(t:TypeId)(x:AV):Prop:=if Fi P t=true then∃cs,x= .agg cs∧G4 P n t cs else G4 P n t [x]
theorem bV{φ:Nat→Place}{w:World}{D:D4}(X:KM ⟨φ,[],w⟩ D):Go.RowKit.Below w.heap.size w D.w:=
 ⟨X.rest.1,X.rest.2.1,X.rest.2.2,X.size,fun k hk=>(X.same k hk (dV φ w k)).1⟩
theorem qE(φ:Nat→Place)(w:World)(hg: ∀g cs,tb.gl g=some cs→g<w.heap.size∧cs.all scal=true∧ ∃vs,DY w g 0 vs∧Bg ⟨φ,[],w⟩ cs vs)(hi: ∀g∈tb.it,∃m:Int,w.cell? ⟨g,0,none⟩=some (.int .i64 m)):Inv tb ⟨φ,[],w⟩:=
 ⟨fun id o h=>by simp at h,fun i j h=>absurd h (Nat.not_lt_zero _),fun i h=>absurd h (Nat.not_lt_zero _),fun g cs h=>by
  obtain⟨h1,h2,h3⟩:=hg g cs h
  exact⟨h1,dV φ w g,h2,h3⟩,fun g h=>⟨dV φ w g,hi g h⟩⟩
theorem oQ{H:Type}{enc:TypeId×Value→H}{W:World}{base:Nat}{spare:Nat→Bool}{held:Bool}{n:Nat}{t:TypeId}(hp:Jc P n t=true){v:Value}{d:DataW H}{ps:List MemPlace}(hv:Value.okWide P W .any base t v)
  (h:DataW.Trod enc P W 0 spare held t v d ps) (φ:Nat→Place): ∃x:AV,TB P n t x∧Gc ⟨φ,[],W⟩ x v:=by
 obtain⟨fuel,h⟩:=h
 obtain⟨cs1,t1,r1,s1,l1⟩:=OI φ n t hp fuel _ _ h
 cases ha:Fi P t with
 |true=>
  have hc: ∃cs,v= .agg cs:=by
   unfold Value.okWide at hv
   simp only[Fi]at ha
   split at hv
   ·obtain⟨cs,e,_⟩:=hv;exact⟨cs,e⟩
   ·obtain⟨cs,e,_⟩:=hv;exact⟨cs,e⟩
   ·rename_i h1 h2
    split at ha
    ·rename_i fs hu;exact absurd hu (h1 fs)
    ·rename_i m e hu;exact absurd hu (h2 m e)
    ·cases ha
  obtain⟨cs,rfl⟩:=hc
  exact⟨.agg cs1,by simp only[TB,ha,if_true];exact⟨cs1,rfl,t1⟩,cs.toList,by simp,s1,by simpa [Value.cells]using r1⟩
 |false=>
  have hna: ∀cs,v≠ .agg cs:=by
   rintro cs rfl
   simp only[Fi]at ha
   unfold Value.okWide at hv
   cases n with
   |zero=>simp[Jc]at hp
   |succ n=>
    simp only[Jc]at hp
    split at hp<;>rename_i hu<;>simp only[hu]at hv ha<;>first
     |(simp only[Cell.okWide,Cell.ok,hu]at hv;done)
     |(cases ha;done)
     |(cases hp;done)
  have hc:v.cells.toList=[v]:=by
   cases v<;>first
    |rfl
    |exact absurd rfl (hna _)
  rw[hc]at r1
  have hl:=r1.length
  obtain⟨x,rfl⟩: ∃x,cs1=[x]:=by
   match cs1,hl with
   |[x],_=>exact⟨x,rfl⟩
  obtain⟨u,q,e,h1,h2⟩:=r1
  simp only[List.cons.injEq]at e
  obtain⟨rfl,_⟩:=e
  exact⟨x,by simp only[TB,ha,Bool.false_eq_true,if_false];exact t1,h1⟩
def PZ(P:Program)(n:Nat):List TypeId→List AV→Prop
 |[],xs=>xs=[]
 |t::ts,xs=> ∃x r,xs=x::r∧TB P n t x∧PZ P n ts r
theorem Vt{H:Type}{enc:TypeId×Value→H}{W:World}{base:Nat}{spare:Nat→Bool}{held:Bool}{n:Nat}(φ:Nat→Place): ∀{ts:List TypeId} {vs:List Value} {ds:List (DataW H)} {ps:List MemPlace},ts.all (Jc P n)=true→
  (∀(j:Nat) t v,ts[j]? =some t→vs[j]? =some v→Value.okWide P W .any base t v)→DataW.TrodAll enc P W 0 spare held ts vs ds ps→ ∃xs:List AV,PZ P n ts xs∧Bg ⟨φ,[],W⟩ xs vs∧ds.length=ts.length
 |[],[],[],_,_,_,_=>⟨[],rfl,rfl,rfl⟩
 |[],[],_::_,_,_,_,h=>h.elim
 |[],_::_,_,_,_,_,h=>by cases ‹List (DataW H)› <;>exact h.elim
 |_::_,[],_,_,_,_,h=>by cases ‹List (DataW H)› <;>exact h.elim
 |_::_,_::_,[],_,_,_,h=>h.elim
 |t::ts,v::vs,d::ds,ps,hp,hv,⟨p,q,h1,h2,_⟩=>by
  simp only[List.all_cons,Bool.and_eq_true]at hp
  obtain⟨x,t1,r1⟩:=oQ hp.1 (hv 0 t v rfl rfl) h1 φ
  obtain⟨xs,t2,r2,l2⟩:=Vt φ hp.2 (fun j t v ht hv'=>hv (j+1) t v (by simpa using ht) (by simpa using hv')) h2
  exact⟨x::xs,⟨x,xs,rfl,t1,t2⟩,⟨v,vs,rfl,r1,r2⟩,by simp[l2]⟩
theorem Qq{H:Type}{enc:TypeId×Value→H}(hl:laidOutB P=true){W W':World}(hb:Go.RowKit.Below W.heap.size W W'): ∀{ts:List TypeId} {vs:List Value} {ds:List (DataW H)} {ps:List MemPlace},
  ts.all (fun t=>P.readableRec t&&decide (t<P.types.size))=true→DataW.TrodAll enc P W 0 (fun _=>true) true ts vs ds ps→(∀x∈ps,x.block<W.heap.size)→DataW.TrodAll enc P W' 0 (fun b=>decide (b<W.heap.size)) true ts vs ds ps
 |[],[],[],_,_,h,_=>h
 |[],[],_::_,_,_,h,_=>h.elim
 |[],_::_,_,_,_,h,_=>by cases ‹List (DataW H)› <;>exact h.elim
 |_::_,[],_,_,_,h,_=>by cases ‹List (DataW H)› <;>exact h.elim
 |_::_,_::_,[],_,_,h,_=>h.elim
 |t::ts,v::vs,d::ds,ps,hp,⟨p,q,h1,h2,e⟩,hlt=>by
  simp only[List.all_cons,Bool.and_eq_true,decide_eq_true_eq]at hp
  subst e
  exact⟨p,q,Go.RowKit.Below.trod hl hp.1.1 hp.1.2 h1 hb fun x hx=>hlt x (List.mem_append_left _ hx),Qq hl hb hp.2 h2 fun x hx=>hlt x (List.mem_append_right _ hx),rfl⟩
theorem wM(ft:Fits T P tb){k:FuncId}{f:Func}{bt:TypeId}{n:Nat}(hl:laidOutB P=true)(hr:f.resultTypes= #[bt])(hb:P.underlying bt=some .bool)(hp:f.params.toList.all (Jc P n)=true)
  (hrd:f.params.toList.all (fun t=>P.readableRec t&&decide (t<P.types.size))=true) {H:Type} {enc:TypeId×Value→H} {s:ChangeSpec} (hs0:s.vars=[]) (hs: ∀ds:List (DataW H),ds.length=f.params.size→s.fn H ds={results:=[.lit (.bool true)],args:=ds})
  {W:World} {base:Nat} {args:Array Value} {ds gs:List (DataW H)} {before:List MemPlace} (hval: ∀(j:Nat) t v,f.params[j]? =some t→args[j]? =some v→Value.okWide P W .any base t v)
  (hW:DataW.Whole enc P f.params.toList s.vars false W args.toList ds gs before)
  (hgl: ∀g cs,tb.gl g=some cs→g<W.heap.size∧cs.all scal=true∧ ∃vs,DY W g 0 vs∧Bg ⟨fun _=>⟨0,0,0⟩,[],W⟩ cs vs)
  (hit: ∀g∈tb.it,∃m:Int,W.cell? ⟨g,0,none⟩=some (.int .i64 m))
  (law: ∀xs:List AV,PZ P n f.params.toList xs→Bg ⟨fun _=>⟨0,0,0⟩,[],W⟩ xs args.toList→ ∃h,C1 tb k xs []=some (.b true,h)):
  Calls P k args W fun e W'=> ∃v,e= .returned v∧s.post enc P f false true false false W args v W':=by
 have hW':=hW
 obtain⟨p,q,hA,hV,rfl,hfz,hnd⟩:=hW
 rw[hs0]at hV
 obtain⟨rfl,rfl⟩:=Go.ChangeShapes.trodVars_none hV
 obtain⟨xs,t1,r1,l1⟩:=Vt (fun _=>⟨0,0,0⟩) hp (fun j t v ht hv=>hval j t v (by simpa using ht) (by simpa using hv)) hA
 obtain⟨h,hd⟩:=law xs t1 r1
 have I:Inv tb ⟨fun _=>⟨0,0,0⟩,[],W⟩:=qE _ W hgl hit
 have hc:=qW ft (C:=⟨fun _=>⟨0,0,0⟩,[],W⟩) I r1 hd
 refine hc.mono fun e W' ⟨v,D,he,X,ID,hw,hH,hv⟩=> ?_
 subst he
 subst hw
 obtain rfl:v= .bool true:=hv
 have hbl:=bV X
 have hlt: ∀x∈p,x.block<W.heap.size:=fun x hx=>hW'.lt x (by simpa using hx)
 have hfn:=hs (ds++[]) (by simpa using l1)
 refine⟨_,rfl,ds,[],p++[],[],p,[],hW',?_,?_,?_,hbl.frame _,fun e=>by cases e⟩
 ·rw[hfn,hr]
  refine⟨[],[],⟨1,?_⟩,rfl,rfl⟩
  simp[DataW.trod,hb,Value.cells]
 ·rw[hfn]
  simpa using Qq hl hbl hrd hA hlt
 ·rw[hs0,hfn]
  rfl
def eG{H:Type}:DataW H→Option AV
 | .lit (.int k n)=>some (.i k n)
 | .lit (.string l)=>some (.s l)
 | .lit (.bool b)=>some (.b b)
 | .iface _ _=>some (.ifc 0 .junk)
 |_=>none
def pU{α β:Type}(F:α→Option β):List α→Option (List β)
 |[]=>some []
 |x::r=>(F x).bind fun x=>(pU F r).map (x:: ·)
theorem dZ{α β:Type}{F:α→Option β}: ∀{l:List α} {r:List β},pU F l=some r→l.length=r.length∧ ∀(i:Nat) x,l[i]? =some x→ ∃y,r[i]? =some y∧F x=some y
 |[],_,h=>by simp only[pU,Option.some.injEq]at h;subst h;simp
 |x::l,_,h=>by
  simp only[pU]at h
  obtain⟨y,hy,h⟩:=Option.bind_eq_some_iff.1 h
  obtain⟨r,hr,rfl⟩:=Option.map_eq_some_iff.1 h
  obtain⟨h1,h2⟩:=dZ hr
  refine⟨by simp[h1],fun i z hz=> ?_⟩
  cases i with
  |zero=>simp only[List.getElem?_cons_zero,Option.some.injEq]at hz ⊢;subst hz;exact⟨y,rfl,hy⟩
  |succ i=>simp only[List.getElem?_cons_succ]at hz ⊢;exact h2 i z hz
theorem nA{C:D4}: ∀{xs:List AV} {ys:List Value},xs.length=ys.length→(∀(i:Nat) x y,xs[i]? =some x→ys[i]? =some y→Gc C x y)→Bg C xs ys
 |[],[],_,_=>rfl
 |[],_::_,h,_=>by simp at h
 |_::_,[],h,_=>by simp at h
 |x::xs,y::ys,h,g=>⟨y,ys,rfl,g 0 x y rfl rfl,nA (by simpa using h) fun i x y hx hy=>g (i+1) x y (by simpa using hx) (by simpa using hy)⟩
theorem cP{H:Type}{enc:TypeId×Value→H}{W:World}{spare:Nat→Bool}{held:Bool}{C:D4}{fuel:Nat}{t:TypeId}{v:Value}{x:DataW H}{p:List MemPlace}{a:AV}(h:DataW.trod enc P W 0 spare held fuel t [v]=some (x,p))(ha:eG x=some a):Gc C a v∧scal a=true:=by
 cases fuel with
 |zero=>simp[DataW.trod]at h
 |succ fuel=>
  cases hu:P.underlying t with
  |none=>simp[DataW.trod,hu]at h
  |some d=>
   have hx:(∃k n,x= .lit (.int k n)∧a= .i k n)∨(∃l,x= .lit (.string l)∧a= .s l)∨(∃b,x= .lit (.bool b)∧a= .b b)∨ ∃n d,x= .iface n d∧a= .ifc 0 .junk:=by
    unfold eG at ha
    split at ha<;>simp only[Option.some.injEq,reduceCtorEq]at ha<;>subst ha<;>simp
   unfold DataW.trod at h
   rw[hu]at h
   rcases hx with ⟨k,n,rfl,rfl⟩|⟨l,rfl,rfl⟩|⟨b,rfl,rfl⟩|⟨n,y,rfl,rfl⟩
   all_goals (split at h<;>(try split at h)<;>(try split at h)<;>simp_all [Gc,scal,Option.map_eq_some_iff,Option.bind_eq_some_iff])
   obtain⟨rfl,_⟩:=h
   simp
theorem xT{H:Type}{enc:TypeId×Value→H}{W:World}{spare:Nat→Bool}{held:Bool}{C:D4}{fuel:Nat}{t e:TypeId}{m:Nat}{cs:List Value}{ds:List (DataW H)}{p:List MemPlace}{cs1:List AV}
  (hu:P.underlying t=some (.array m e)) (hc:P.cellsOf e=1) (hct:P.cellsOf t=m) (h:DataW.trod enc P W 0 spare held fuel t cs=some (.agg ds,p)) (ha:pU eG ds=some cs1):Bg C cs1 cs∧cs1.all scal=true:=by
 cases fuel with
 |zero=>simp[DataW.trod]at h
 |succ fuel=>
  simp only[DataW.trod,hu,hc,hct]at h
  split at h
  ·rename_i hl
   obtain⟨xs,hxs,h⟩:=Option.map_eq_some_iff.1 h
   simp only[Prod.mk.injEq,DataW.agg.injEq]at h
   obtain⟨rfl,_⟩:=h
   have hxl:=mapM_some_length hxs
   simp only[List.length_range]at hxl
   obtain⟨g1,g2⟩:=dZ ha
   simp only[List.length_map]at g1
   have key: ∀(i:Nat) a,cs1[i]? =some a→ ∃v,cs[i]? =some v∧Gc C a v∧scal a=true:=fun i a hi=>by
    have hi':=Bb hi
    have:=mapM_some_get hxs i i (by rw[List.getElem?_range (by omega)])
    have hd:(cs.drop (i*1)).take 1=[cs[i]'(by omega)]:=by
     rw[Nat.mul_one,List.drop_eq_getElem_cons (by omega)];rfl
    rw[hd,List.getElem?_eq_getElem (by omega)]at this
    obtain⟨y,hy,hf⟩:=g2 i (xs[i]'(by omega)).1 (by rw[List.getElem?_map,List.getElem?_eq_getElem (by omega)];rfl)
    rw[hi]at hy
    cases hy
    exact⟨_,List.getElem?_eq_getElem (by omega),cP this hf⟩
   refine⟨nA (by omega) fun i x y hx hy=> ?_,?_⟩
   ·obtain⟨v,h1,h2,_⟩:=key i x hx
    rw[hy]at h1;cases h1;exact h2
   ·rw[List.all_eq_true]
    intro x hx
    obtain⟨i,hi⟩:=List.mem_iff_getElem?.1 hx
    obtain⟨v,_,_,h⟩:=key i x hi
    exact h
  ·cases h
theorem Wn{W:World}{n:String}{d:DataW Unit}: ∀{l:List (String×DataW Unit)} {ps:List MemPlace},DataW.LaidVars P W l ps→(n,d)∈l→ ∃g t cs fuel p,P.globalNamed n=some g∧(P.globals[g]?).map (·.type)=some t∧W.var? P n=some cs∧
  DataW.trod (fun _=>()) P W 0 (fun _=>true) false fuel t cs.toList=some (d,p)
 |[],_,_,hm=>by cases hm
 |(n',d')::r,ps,⟨g,t,cs,fuel,p,q,h1,h2,h3,h4,h5,_⟩,hm=>by
  rcases List.mem_cons.1 hm with e|hm
  ·simp only[Prod.mk.injEq]at e
   obtain⟨rfl,rfl⟩:=e
   exact⟨g,t,cs,fuel,p,h1,h2,h3,h4⟩
  ·exact Wn h5 hm
theorem TW{W:World}{l:List (String×DataW Unit)}(hL:laidMet P l W){n:String}{d:DataW Unit}{a:AV}{g:Nat}{t:TypeId}(hm:(n,d)∈l)(hg:P.globalNamed n=some g)(ht:(P.globals[g]?).map (·.type)=some t)
  (hu: ∃m,P.underlying t=some (.interface m)) (ha:eG d=some a):
  g<W.heap.size∧[a].all scal=true∧ ∃vs,DY W g 0 vs∧Bg ⟨fun _=>⟨0,0,0⟩,[],W⟩ [a] vs:=by
 obtain⟨ps,hv,_,_⟩:=hL
 obtain⟨g',t',cs,fuel,p,h1,h2,h3,h4⟩:=Wn hv hm
 rw[hg]at h1;cases h1
 rw[ht]at h2;cases h2
 obtain⟨m,hu⟩:=hu
 have hc: ∃v,cs.toList=[v]:=by
  cases fuel with
  |zero=>simp[DataW.trod]at h4
  |succ fuel=>
   unfold DataW.trod at h4
   rw[hu]at h4
   split at h4<;>first
    |(rename_i e;exact⟨_,e⟩)
    |(rename_i e _;exact⟨_,e⟩)
    |(cases h4;done)
    |simp_all
 obtain⟨v,hc⟩:=hc
 rw[hc]at h4
 obtain⟨r1,r2⟩:=cP (C:=⟨fun _=>⟨0,0,0⟩,[],W⟩) h4 ha
 simp only[World.var?,hg,Option.bind_some]at h3
 have hlt:g<W.heap.size:=by
  rcases Nat.lt_or_ge g W.heap.size with h|h
  ·exact h
  ·rw[Array.getElem?_eq_none h]at h3;cases h3
 refine⟨hlt,by simp[r2],cs.toList,fun j v hj=> ?_,by rw[hc];exact⟨v,[],rfl,r1,rfl⟩⟩
 split at h3
 ·rename_i cs' ty fr hh
  cases h3
  simp only[World.cell?,hh,Nat.zero_add]
  simpa using hj
 ·cases h3
theorem kS{W:World}{l:List (String×DataW Unit)}(hL:laidMet P l W){n:String}{d:DataW Unit}{ds:List (DataW Unit)}{cs1:List AV}{g:Nat}{t e:TypeId}{m:Nat}(hm:(n,d)∈l)(hg:P.globalNamed n=some g)(ht:(P.globals[g]?).map (·.type)=some t)
  (hu:P.underlying t=some (.array m e)) (hc:P.cellsOf e=1) (hct:P.cellsOf t=m) (hd:d= .agg ds) (ha:pU eG ds=some cs1):
  g<W.heap.size∧cs1.all scal=true∧ ∃vs,DY W g 0 vs∧Bg ⟨fun _=>⟨0,0,0⟩,[],W⟩ cs1 vs:=by
 obtain⟨ps,hv,_,_⟩:=hL
 obtain⟨g',t',cs,fuel,p,h1,h2,h3,h4⟩:=Wn hv hm
 rw[hg]at h1;cases h1
 rw[ht]at h2;cases h2
 subst hd
 obtain⟨r1,r2⟩:=xT (C:=⟨fun _=>⟨0,0,0⟩,[],W⟩) hu hc hct h4 ha
 simp only[World.var?,hg,Option.bind_some]at h3
 have hlt:g<W.heap.size:=by
  rcases Nat.lt_or_ge g W.heap.size with h|h
  ·exact h
  ·rw[Array.getElem?_eq_none h]at h3;cases h3
 refine⟨hlt,r2,cs.toList,fun j v hj=> ?_,r1⟩
 split at h3
 ·rename_i cs' ty fr hh
  cases h3
  simp only[World.cell?,hh,Nat.zero_add]
  simpa using hj
 ·cases h3
end
end Go.Proofs.YtobejhpigbllpaaGreatDoor.Am
namespace Go.Proofs.YtobejhpigbllpaaGreatDoor.Am
def FM(P:Program)(t:TypeId)(u:T)(I:u.α→Prop):Prop:= ∀n cs,G4 P n t cs→ ∃x,u.R (fun _=>False) [] cs x∧I x
def mE(P:Program)(fs:List Field)(u:T)(I:u.α→Prop):Prop:= ∀n cs,bW (G4 P n) fs cs→ ∃x,u.R (fun _=>False) [] cs x∧I x
section
variable{P:Program}{t e:TypeId}
theorem FM.weak{u:T}{I J:u.α→Prop}(h:FM P t u I)(w: ∀x,I x→J x):FM P t u J:=fun n cs k=>by
 obtain⟨x,r,i⟩:=h n cs k
 exact⟨x,r,w x i⟩
theorem FM.int{k:IntKind}(hu:P.underlying t=some (.int k)):FM P t (T.int k) fun x=>k.has x:=by
 intro n cs h
 cases n with
 |zero=>exact h.elim
 |succ n=>
  simp only[G4,hu]at h
  obtain⟨x,rfl,hx⟩:=h
  exact⟨x,rfl,hx⟩
theorem wX{k:IntKind}{m:Nat}{α:Type}{c:α→Nat}{z:α}{hs hm}(ofN: ∀i,i<m→ ∃x,c x=i)(hk: ∀x,k.has x→0≤x∧x<m)(hu:P.underlying t=some (.int k)):FM P t (S2 α (fun x=> .i k (c x)) z hs hm) fun _=>True:=by
 intro n cs h
 cases n with
 |zero=>exact h.elim
 |succ n=>
  simp only[G4,hu]at h
  obtain⟨x,rfl,hx⟩:=h
  have:=hk x hx
  obtain⟨y,hy⟩:=ofN x.toNat (by omega)
  refine⟨y,?_,trivial⟩
  show [AV.i k x]=[AV.i k (c y)]
  rw[hy];congr 2;omega
theorem has_u{x:Int}:(IntKind.u8.has x→0≤x∧x<(256:Nat))∧(IntKind.u16.has x→0≤x∧x<(65536:Nat))∧(IntKind.u32.has x→0≤x∧x<(4294967296:Nat))∧(IntKind.u64.has x→0≤x∧x<(18446744073709551616:Nat)):=by
 simp only[IntKind.has,IntKind.min,IntKind.max,IntKind.signed,IntKind.bits]
 refine⟨fun h=> ?_,fun h=> ?_,fun h=> ?_,fun h=> ?_⟩<;>simp at h<;>omega
theorem FM.u8(hu:P.underlying t=some (.int .u8)):FM P t T.u8 fun _=>True:=wX (c:=UInt8.toNat) (m:=256) (fun i hi=>⟨UInt8.ofNat i,by rw[UInt8.toNat_ofNat'];exact Nat.mod_eq_of_lt hi⟩) (fun _=>has_u.1) hu
theorem S6{u:T}{I:u.α→Prop}(h:FM P e u I){n:Nat}: ∀{els:List (List AV)},(∀x∈els,G4 P n e x)→ ∃xs:List u.α,Do u (fun _=>False) [] els xs∧ ∀x∈xs,I x
 |[],_=>⟨[],trivial,fun _ h=>by cases h⟩
 |c::els,hx=>by
  obtain⟨xs,h1,h2⟩:=S6 h fun y hy=>hx y (List.mem_cons_of_mem _ hy)
  obtain⟨x,h3,h4⟩:=h n c (hx c List.mem_cons_self)
  exact⟨x::xs,⟨h3,h1⟩,fun y hy=>by
   rcases List.mem_cons.1 hy with rfl|hy
   ·exact h4
   ·exact h2 y hy⟩
theorem FM.sl{u:T}{I:u.α→Prop}(h:FM P e u I)(hu:P.underlying t=some (.slice e))(hsz:P.cellsOf e=u.sz):FM P t (T.sl u) fun g=> ∀x∈g.l,I x:=by
 intro n cs k
 cases n with
 |zero=>exact k.elim
 |succ n=>
  simp only[G4,hu]at k
  rcases k with rfl|⟨els,rfl,hels⟩
  ·exact⟨GS.nil,⟨_,rfl,rfl⟩,fun x hx=>by cases hx⟩
  ·obtain⟨xs,h1,h2⟩:=S6 h hels
   exact⟨GS.mk xs,⟨_,rfl,trivial,els,by simp[EP,hsz],h1⟩,h2⟩
theorem FM.arr{m:Nat}{u:T}{I:u.α→Prop}(h:FM P e u I)(hu:P.underlying t=some (.array m e)):FM P t (T.arr m u) fun g=> ∀x∈g.l,I x:=by
 intro n cs k
 cases n with
 |zero=>exact k.elim
 |succ n=>
  simp only[G4,hu]at k
  obtain⟨els,hl,rfl,hels⟩:=k
  obtain⟨xs,h1,h2⟩:=S6 h hels
  exact⟨⟨xs,by rw[←h1.length,hl]⟩,⟨els,rfl,h1⟩,h2⟩
theorem mE.one{f:Field}{u:T}{I:u.α→Prop}(h:FM P f.type u I):mE P [f] u I:=by
 rintro n cs ⟨a,b,rfl,h1,h2⟩
 obtain rfl:b=[]:=h2
 rw[List.append_nil]
 exact h n a h1
theorem mE.cons{f:Field}{fs:List Field}{u w:T}{I:u.α→Prop}{J:w.α→Prop}(h:FM P f.type u I)(g:mE P fs w J):mE P (f::fs) (Hx u w) fun p=>I p.1∧J p.2:=by
 rintro n cs ⟨a,b,rfl,h1,h2⟩
 obtain⟨x,r1,i1⟩:=h n a h1
 obtain⟨y,r2,i2⟩:=g n b h2
 exact⟨(x,y),⟨a,b,rfl,r1,r2⟩,i1,i2⟩
theorem FM.st{fs:Array Field}{u:T}{I:u.α→Prop}{β:Type}{f:β→u.α}{g:u.α→β}{hfg: ∀y,f (g y)=y}(h:mE P fs.toList u I)(hu:P.underlying t=some (.struct fs)):FM P t (Xo u β f g hfg) fun(y:β)=>I (f y):=by
 intro n cs k
 cases n with
 |zero=>exact k.elim
 |succ n=>
  simp only[G4,hu]at k
  obtain⟨x,r,i⟩:=h n cs k
  refine⟨g x,?_,?_⟩
  ·show u.R _ _ _ (f (g x))
   rw[hfg];exact r
  ·show I (f (g x))
   rw[hfg];exact i
end
theorem mQ{P:Program}{n:Nat}{t:TypeId}{u:T}{I:u.α→Prop}{v:AV}(ha:Fi P t=u.agg)(h:FM P t u I)(k:TB P n t v): ∃x,u.V (fun _=>False) [] v x∧I x:=by
 unfold TB at k
 cases hu:u.agg with
 |true=>
  rw[ha,hu,if_pos rfl]at k
  obtain⟨cs,rfl,k⟩:=k
  obtain⟨x,r,i⟩:=h n cs k
  exact⟨x, .inl ⟨hu,cs,rfl,r⟩,i⟩
 |false=>
  rw[ha,hu,if_neg (by simp)]at k
  obtain⟨x,r,i⟩:=h n [v] k
  exact⟨x, .inr ⟨hu,r⟩,i⟩
def Tys(P:Program):List TypeId→(us:List T)→(CF us→Prop)→Prop
 |[],[],_=>True
 |[t],[u],I=>Fi P t=u.agg∧FM P t u I
 |t::t'::ts,u::u'::us,I=> ∃(J:u.α→Prop) (K:CF (u'::us)→Prop),(Fi P t=u.agg∧FM P t u J)∧Tys P (t'::ts) (u'::us) K∧ ∀x y,J x→K y→I (x,y)
 |_,_,_=>False
theorem Tys.one{P:Program}{t:TypeId}{u:T}{I:u.α→Prop}(ha:Fi P t=u.agg)(h:FM P t u I):Tys P [t] [u] I:=⟨ha,h⟩
theorem cN{P:Program}{n:Nat}: ∀{ts:List TypeId} {us:List T} {I:CF us→Prop} {xs:List AV},(us=[]→ ∀x,I x)→Tys P ts us I→PZ P n ts xs→ ∃a:CF us,Uw (fun _=>False) [] us xs a∧I a
 |[],[],_,xs,h0,_,h=>⟨(),h,h0 rfl ()⟩
 |[t],[u],I,xs,_,hT,⟨x,r,e,h,k⟩=>by
  obtain rfl:r=[]:=k
  obtain⟨a,h1,h2⟩:=mQ hT.1 hT.2 h
  exact⟨a,⟨x,e,h1⟩,h2⟩
 |t::t'::ts,u::u'::us,I,xs,_,⟨J,K,hT,hR,hI⟩,⟨x,r,e,h,k⟩=>by
  obtain⟨a,h1,h2⟩:=mQ hT.1 hT.2 h
  obtain⟨b,h3,h4⟩:=cN (fun e=>by cases e) hR k
  exact⟨(a,b),⟨x,r,e,h1,h3⟩,hI a b h2 h4⟩
 |[],_::_,_,_,_,h,_=>h.elim
 |_::_,[],_,_,_,h,_=>by cases ‹List TypeId› <;>exact h.elim
 |[_],_::_::_,_,_,_,h,_=>h.elim
 |_::_::_,[_],_,_,_,h,_=>h.elim
theorem wZ{P:Program}{tb:Dg}{g n:Nat}{ts:List TypeId}{As:List T}{F:CF As→Option Bool}{I:CF As→Prop}(S:Spec tb g As [T.b] F)(hp:tb.prim g=none)(h0:As=[]→ ∀x,I x)(hT:Tys P ts As I)(hF: ∀a,I a→F a=some true)
  {xs:List AV} (h:PZ P n ts xs): ∃h,C1 tb g xs []=some (.b true,h):=by
 obtain⟨a,ha,hi⟩:=cN h0 hT h
 obtain⟨v,u,hc,_,vs,hv,w,hw,hb⟩:=(S (fun _=>False) [] xs a (fun _ h=>h.elim) (by simp[Dh]) ha true (hF a hi)).call
 simp only[B6,hp]at hc
 obtain rfl:w= .b true:=Fz.1 hb
 subst hw
 exact⟨u,by rw[hc,hv];rfl⟩
end Go.Proofs.YtobejhpigbllpaaGreatDoor.Am
namespace Go.Proofs.YtobejhpigbllpaaGreatDoor.Am
theorem cL{x:Int}(h0: -9223372036854775808≤x)(h1:x<9223372036854775808):IntKind.i64.wrap x=x:=by
 simp only[IntKind.wrap,IntKind.bits,IntKind.signed];simp;omega
theorem BF{m:Nat}(h:m<9223372036854775808):IntKind.i64.wrap (m:Int)=m:=cL (by omega) (by omega)
section
variable{α:Type}
theorem Vb{l:List α}{n:Nat}(h:n≤l.length):Nv l none (some (n:Int))=some (l.take n):=by
 simp[Nv,PW,h]
theorem MT{l:List α}{n:Nat}(h:n≤l.length):Nv l (some (n:Int)) none=some (l.drop n):=by
 simp[Nv,PW,h]
theorem rW{l:List α}{n:Nat}(h:n≤l.length):slG (.mk l) (some (n:Int)) none=some (.mk (l.drop n)):=by
 simp[slG,PW,GS.l,h,Wa]
theorem DH{l:List α}{n:Nat}:Hb l (n:Int)=l[n]? :=by simp[Hb]
theorem CN{n k:Nat}(h:n<k):Dl k (n:Int)=some n:=by simp[Dl,h]
theorem Vo{bytes:Nat}{g:GS α}{x:α}(h:(g.l.length+1)*bytes≤B4):Sx bytes g [x]=some (.mk (g.l++[x])):=by
 unfold Sx
 rw[if_pos (by simpa using h)]
 cases g<;>rfl
@[simp] theorem Lx {l : List α} : (GS.mk l).l = l := rfl
@[simp] theorem GS.l_nil : (GS.nil : GS α).l = [] := rfl
theorem RR{σ β:Type}{F:σ→Option (σ⊕β)}(m:σ→Nat)(I:σ→Prop)(Q:β→Prop)
  (step: ∀s,I s→(∃s',F s=some (.inl s')∧I s'∧m s'<m s)∨ ∃b,F s=some (.inr b)∧Q b): ∀{s},I s→ ∃b,iter F s=some b∧Q b:=by
 have key: ∀n s,m s<n→I s→ ∃b,iter F s=some b∧Q b:=by
  intro n
  induction n with
  |zero=>intro s h;omega
  |succ n ih=>
   intro s h hI
   rcases step s hI with ⟨s',e,hI',hm⟩|⟨b,e,hq⟩
   ·rw[Hk e];exact ih s' (by omega) hI'
   ·exact⟨b,Dr e,hq⟩
 intro s hI
 exact key _ s (Nat.lt_succ_self _) hI
theorem EE{σ β γ:Type}{F:σ→Option (σ⊕β)}{K:β→Option γ}{r:Option γ}{s:σ}(m:σ→Nat)(I:σ→Prop)(Q:β→Prop)(h:I s)
  (step: ∀s,I s→(∃s',F s=some (.inl s')∧I s'∧m s'<m s)∨ ∃b,F s=some (.inr b)∧Q b) (fin: ∀b,Q b→K b=r):(iter F s).bind K=r:=by
 obtain⟨b,e,hb⟩:=RR m I Q step h
 rw[e];exact fin b hb
theorem vB{σ β:Type}{F:σ→Option (σ⊕β)}{b:β}(m:σ→Nat)(I:σ→Prop)
  (step: ∀s,I s→(∃s',F s=some (.inl s')∧I s'∧m s'<m s)∨F s=some (.inr b)) {s:σ} (h:I s):iter F s=some b:=by
 obtain⟨b',e,rfl⟩:=RR m I (fun b'=>b'=b) (fun s hs=>(step s hs).imp_right fun e=>⟨b,e,rfl⟩) h
 exact e
end
def Bq(c:UInt8):AR→List AR
 |[]=>[[]]
 |x::l=>if x=c then []::Bq c l else match Bq c l with
  |[]=>[[x]]
  |h::t=>(x::h)::t
theorem Fd{c:UInt8}: ∀l,Bq c l≠[]
 |[]=>by simp[Bq]
 |x::l=>by
  simp only[Bq]
  split
  ·simp
  ·split<;>simp
theorem IF{c:UInt8}: ∀{p:AR},(∀x∈p,x≠c)→Bq c p=[p]
 |[],_=>rfl
 |x::p,h=>by
  simp only[Bq,if_neg (h x List.mem_cons_self),IF fun y hy=>h y (List.mem_cons_of_mem _ hy)]
theorem HB{c:UInt8}{q:AR}: ∀{p:AR},(∀x∈p,x≠c)→Bq c (p++c::q)=p::Bq c q
 |[],_=>by simp[Bq]
 |x::p,h=>by
  simp only[List.cons_append,Bq,if_neg (h x List.mem_cons_self),HB fun y hy=>h y (List.mem_cons_of_mem _ hy)]
theorem Pq(l:AR)(c:UInt8):((∀x∈l,x≠c)∧Nk l c= -1)∨ ∃p q,l=p++c::q∧(∀x∈p,x≠c)∧Nk l c=(p.length:Int):=by
 unfold Nk
 cases e:l.findIdx? (fun x=>x==c)with
 |none=>
  left
  rw[List.findIdx?_eq_none_iff]at e
  exact⟨fun x hx=>by simpa using e x hx,rfl⟩
 |some i=>
  right
  rw[List.findIdx?_eq_some_iff_getElem]at e
  obtain⟨h,h1,h2⟩:=e
  have hc:l[i]=c:=by simpa using h1
  refine⟨l.take i,l.drop (i+1),?_,?_,?_⟩
  ·rw[←hc,←List.drop_eq_getElem_cons h,List.take_append_drop]
  ·intro x hx
   obtain⟨j,hj,rfl⟩:=List.mem_iff_getElem.1 hx
   rw[List.length_take]at hj
   have:=h2 j (by omega)
   rw[List.getElem_take]
   simpa using this
  ·rw[List.length_take];simp only[Int.ofNat_inj];omega
end Go.Proofs.YtobejhpigbllpaaGreatDoor.Am
