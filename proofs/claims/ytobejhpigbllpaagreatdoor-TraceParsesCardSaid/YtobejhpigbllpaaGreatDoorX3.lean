/-
  The functions: their numbers, their codes. Printed by mkwalk.py.
  strings.Builder's grow, at a builder without a buffer. Printed by mkwalk.py.
  Functions of Go's library: the kit's contracts, at this program. Printed by mkpu.py.
  Each code is the program's. Printed by mkwalk.py.
  Plain laws: numbers, pieces of lists, a text split at a byte.
-/
import Derived.Test.YtobejhpigbllpaaGreatDoorProg
import Derived.Lib.MakeNoZero
import Derived.Lib.Builder
import Derived.Lib.Walk
import Derived.WalkKit
import Derived.Laws.Externs
import Derived.Laws.IdiomCopy
import Derived.KernelRfl
import Derived.Shelf.Pu.ParseUintPublic10
import Derived.Shelf.Strings.Search2
import Derived.Test.YtobejhpigbllpaaGreatDoorX2
section
set_option linter.unusedVariables false
set_option maxRecDepth 100000
set_option maxHeartbeats 4000000
namespace Go.Proofs.YtobejhpigbllpaaGreatDoor.Am
def Ey:Nat:=4
def GI:Nat:=10
def Hi:Nat:=12
def Ft:Nat:=13
def Gn:Nat:=14
def IX:Nat:=16
def Ib:Nat:=17
def Hj:Nat:=21
def DJ:Nat:=31
def Ek:Nat:=32
def Fu:Nat:=33
def Hh:Nat:=34
def IY:Nat:=40
def Eb:Nat:=41
def IW:Nat:=42
def Gt:Nat:=45
def E1:Nat:=56
def IV:Nat:=57
def HZ:Nat:=58
def Ju:Nat:=59
def Dw:Nat:=60
def B5:Nat:=61
def Cz:Nat:=62
def EV:Nat:=63
def GH:Nat:=64
def Ia:Nat:=66
def F8:Nat:=67
def Ic:Nat:=68
def G2:Nat:=69
def Ee:Nat:=75
def AZ:Nat:=84
def EL:Nat:=85
def Bc:Nat:=86
def F7:Nat:=87
def Bb:Nat:=88
def Cv:Nat:=89
def Fj:Nat:=90
def C8:Nat:=91
def EF:Nat:=92
def C7:Nat:=93
def BS:Nat:=94
def IZ:Nat:=95
def Cj:Nat:=96
def Fi:Nat:=97
def Ci:Nat:=98
def Dk:Nat:=99
def El:Nat:=100
def D3:Nat:=101
def Em:Nat:=102
def GF:Nat:=103
def D2:Nat:=104
def BH:Nat:=105
def F4:Nat:=106
def Dl:Nat:=107
def FW:Nat:=110
def LH:Nat:=111
def Ka:Nat:=112
def Id:Nat:=113
def Hk:Nat:=114
def Fc:Nat:=120
def Ei:Nat:=122
def Cc:Nat:=132
def EM:Nat:=133
def Hm:Nat:=134
def GJ:Nat:=135
def Ez:Nat:=136
def Hn:Nat:=137
def Kc:Nat:=138
def Dy:Nat:=139
def EG:Nat:=140
def FJ:Nat:=141
def FY:Nat:=142
def BL:Nat:=144
def FK:Nat:=148
def Ie:Nat:=149
def GG:Nat:=150
def LG:Nat:=151
def GK:Nat:=156
def Fg:Nat:=158
def E6:Nat:=164
def Ig:Nat:=165
def Hl:Nat:=166
def DK:Nat:=167
def Gp:Nat:=168
def Gs:Nat:=169
def Ja:Nat:=170
def FX:Nat:=171
def Cd:Nat:=172
def C9:Nat:=175
def Kb:Nat:=177
def G1:Nat:=178
def CC:Nat:=187
def FB:Nat:=205
def Fk:Nat:=206
def FL:Nat:=207
def BM:Nat:=208
def C0:Nat:=209
def Ed:Nat:=210
def D4:Nat:=211
def CE:Nat:=212
def Cm:Nat:=213
def Ct:Nat:=214
def Kd:Nat:=215
def Fh:Nat:=222
def FA:Nat:=232
def Gr:Nat:=233
def B2:Nat:=234
def Dm:Nat:=235
def Ec:Nat:=236
def DE:Nat:=237
def C4:Nat:=238
def Cn:Nat:=239
def Ew:Nat:=240
def Co:Nat:=241
def F9:Nat:=249
def Gq:Nat:=250
noncomputable def Hz:D9:=⟨false,1,40,[.tmp 2],(sf [oz 2 (.mv (.k (.b false)))] (.seq (sf [mt 7 0,oz 8 (.lens (.t 7)),oz 9 (.bin .gtr (.t 8) (ki 9000))] (.cond (.t 9) (sf [oz 10 (.call GI []),mt 2 10] .ret) .skip)) (sf [mt 12 0,oz 13 (.call Gn [(.t 12)]),mt 11 13,oz 14 (.ext (.t 11) 0),oz 15 (.ext (.t 11) 1),oz 3 (.alloc 32 Ae.zc),on (.st 53 (.t 3) (.t 14)),mt 4 15] (sf [mt 17 0,oz 18 (.call Ib [(.t 17)]),mt 16 18,oz 19 (.ext (.t 16) 0),oz 20 (.ext (.t 16) 1),oz 5 (.alloc 32 Ae.zc),on (.st 53 (.t 5) (.t 19)),mt 6 20] (sf [oz 21 (.ld true 53 (.t 3)),oz 22 (.ld true 53 (.t 5)),oz 23 (.call IX [(.t 21),(.t 22)]),mt 24 23,⟨some 25,some (24,true), .mv (.t 4)⟩,⟨some 26,some (24,true), .mv (.t 6)⟩,⟨some 27,some (24,true), .bin .eql (.t 25) (.t 26)⟩,oz 28 (.pick (.t 24) (.t 27) (.k (.b false))),mt 29 28,⟨some 30,some (29,true), .mv (.t 6)⟩,⟨some 31,some (29,true), .bin .neq (.t 30) (ki 0)⟩,⟨some 32,some (29,true), .mv (.t 31)⟩,⟨some 33,some (32,false), .ld true 53 (.t 3)⟩,⟨some 34,some (32,false), .call Ft [(.t 33)]⟩,⟨some 35,some (29,true), .pick (.t 32) (.k (.b true)) (.t 34)⟩,oz 36 (.pick (.t 29) (.t 35) (.k (.b false))),mt 37 36,⟨some 38,some (37,true), .call GI []⟩,oz 39 (.pick (.t 37) (.t 38) (.k (.b false))),mt 2 39] .ret)))))⟩
noncomputable def MF:D9:=⟨false,0,14,[.tmp 0],(sf [oz 0 (.mv (.k (.b false)))] (sf [oz 4 (.bld Ae.zc [(0,1,(ki 5)),(52,1,(ki 7))]),oz 5 (.call Hi [(.t 4)]),mt 3 5,oz 6 (.ext (.t 3) 0),oz 7 (.ext (.t 3) 1),mt 1 6,mt 2 7] (sf [mt 8 2,oz 9 (.bin .eql (.t 8) (ki 0)),mt 10 9,⟨some 11,some (10,true), .mv (.t 1)⟩,⟨some 12,some (10,true), .bin .eql (.t 11) (.k (.s [100,114,111,112,32,55]))⟩,oz 13 (.pick (.t 10) (.t 12) (.k (.b false))),mt 0 13] .ret)))⟩
noncomputable def UZ:AC:=(sf [oz 25 (.bin .lss (.t 24) (.t 23))] (.seq (.cond (.t 25) .skip (.exit 0)) (.seq (.blk 1 (sf [oz 26 (.ias 3 (.t 22) (.t 24)),oz 27 (.ld true 3 (.t 26)),oz 8 (.alloc 72 (zz [(3, .nilf)])),on (.st 3 (.t 8) (.t 27))] (rg false [mt 28 6,oz 29 (.fa 0 (.t 8)),oz 30 (.ld false 1 (.t 29)),oz 31 (.ld true 53 (.t 1)),oz 32 (.callv (.t 30) [(.t 31)]),oz 33 (.bll 1 (List.replicate 1 Ak.zc) [(0,(.t 32))]),oz 34 (.app 9 1 16 (.t 28) (.t 33)),mt 6 34]))) (rg false [oz 35 (.bin .add (.t 24) (ki 1)),mt 24 35]))))
noncomputable def Lz:D9:=⟨false,1,38,[.tmp 2, .tmp 3],(sf [oz 1 (.box 32 53 (.t 0)),oz 2 (.mv (.k (.s []))),oz 3 (.mv (ki 0))] (.seq (sf [oz 9 (.ld true 53 (.t 1)),oz 10 (.call Ft [(.t 9)]),oz 11 (.un .not (.t 10))] (.cond (.t 11) (sf [oz 2 (.mv (.k (.s []))),oz 3 (.mv (ki 1))] .ret) .skip)) (sf [oz 13 (.fa 0 (.t 1)),oz 14 (.ld false 1 (.t 13)),oz 15 (.call DJ [(.t 14)]),mt 12 15,oz 16 (.ext (.t 12) 0),oz 17 (.ext (.t 12) 1),oz 4 (.alloc 66 (zz [(1, .s []),(1, .nils)])),on (.st 2 (.t 4) (.t 16)),mt 5 17] (sf [oz 18 (.fa 0 (.t 4)),oz 19 (.ld false 1 (.t 18)),oz 20 (.bls 9 1 (List.replicate 1 Ak.zc) [(0,(.t 19))]),mt 6 20] (.seq (sf [oz 21 (.fa 1 (.t 4)),oz 22 (.ld false 1 (.t 21)),oz 23 (.len (.t 22)),oz 24 (.mv (ki 0))] (.blk 0 (.loop [1,6,22,23,24] UZ))) (sf [mt 36 6,oz 37 (.call Ek [(.t 36),(.k (.s [32]))]),mt 2 37,oz 3 (.mv (ki 0))] .ret))))))⟩
noncomputable def TA:AC:=(sf [oz 17 (.bin .lss (.t 16) (.t 15))] (.seq (.cond (.t 17) .skip (.exit 0)) (.seq (.blk 1 (sf [oz 18 (.ias 3 (.t 14) (.t 16)),oz 19 (.ld true 3 (.t 18)),oz 6 (.alloc 72 (zz [(3, .nilf)])),on (.st 3 (.t 6) (.t 19))] (rg false [oz 20 (.fa 2 (.t 6)),oz 21 (.ld false 1 (.t 20)),oz 22 (.callv (.t 21) [(.t 1)]),mt 23 22,⟨some 24,some (23,true), .mv (.t 4)⟩,oz 25 (.pick (.t 23) (.t 24) (.k (.b false))),mt 4 25]))) (rg false [oz 26 (.bin .add (.t 16) (ki 1)),mt 16 26]))))
noncomputable def Kw:D9:=⟨false,1,35,[.tmp 2],(sf [oz 1 (.box 32 53 (.t 0)),oz 2 (.mv (.k (.b false)))] (sf [oz 8 (.fa 0 (.t 1)),oz 9 (.ld false 1 (.t 8)),oz 10 (.call DJ [(.t 9)]),mt 7 10,oz 11 (.ext (.t 7) 0),oz 12 (.ext (.t 7) 1),oz 3 (.alloc 66 (zz [(1, .s []),(1, .nils)])),on (.st 2 (.t 3) (.t 11)),mt 4 12] (.seq (sf [oz 13 (.fa 1 (.t 3)),oz 14 (.ld false 1 (.t 13)),oz 15 (.len (.t 14)),oz 16 (.mv (ki 0))] (.blk 0 (.loop [1,4,14,15,16] TA))) (sf [mt 27 4,mt 28 27,⟨some 29,some (28,true), .ld true 53 (.t 1)⟩,⟨some 30,some (28,true), .fa 0 (.t 1)⟩,⟨some 31,some (28,true), .ld false 1 (.t 30)⟩,⟨some 32,some (28,true), .bld Ae.zc [(0,1,(.t 31))]⟩,⟨some 33,some (28,true), .call Hj [(.t 29),(.t 32)]⟩,oz 34 (.pick (.t 28) (.t 33) (.k (.b false))),mt 2 34] .ret))))⟩
noncomputable def TB:AC:=(sf [oz 42 (.bin .lss (.t 41) (.t 40))] (.seq (.cond (.t 42) .skip (.exit 1)) (.seq (.blk 2 (sf [mt 43 41,oz 44 (.ias 3 (.t 39) (.t 41)),oz 45 (.ld true 3 (.t 44)),oz 9 (.alloc 72 (zz [(3, .nilf)])),mt 8 43,on (.st 3 (.t 9) (.t 45))] (.seq (.regd [oz 46 (.fa 1 (.t 9)),oz 47 (.ld false 1 (.t 46)),mt 48 4,mt 49 8,oz 50 (.bin .add (.t 49) (ki 1)),oz 51 (.ias 1 (.t 48) (.t 50)),oz 52 (.ld false 1 (.t 51)),oz 53 (.callv (.t 47) [(.t 5),(.t 52)]),mt 10 53] [some (0,0),some (0,0),some (0,0),some (0,0),some (0,0),some (0,0),some (0,0),none,some (1,1)]) (sf [mt 54 10,oz 55 (.bin .neq (.t 54) (ki 0))] (.cond (.t 55) (sf [oz 56 (.bld Ae.zc []),mt 57 10,on (.st 53 (.t 2) (.t 56)),mt 3 57] .ret) .skip))))) (rg false [oz 58 (.bin .add (.t 41) (ki 1)),mt 41 58]))))
noncomputable def Kx:D9:=⟨false,1,60,[.cell true 53 2, .tmp 3],(sf [oz 2 (.alloc 32 Ae.zc),oz 3 (.mv (ki 0))] (sf [mt 11 0,oz 12 (.ixs (.k (.s [32])) (ki 0)),oz 13 (.call Fu [(.t 11),(.t 12)]),mt 4 13] (sf [mt 14 4,oz 15 (.ias 1 (.t 14) (ki 0)),oz 16 (.ld false 1 (.t 15)),oz 17 (.call Hh [(.t 16)]),oz 18 (.bld Ae.zc [(0,1,(.t 17))]),oz 5 (.alloc 32 Ae.zc),on (.st 53 (.t 5) (.t 18))] (sf [oz 20 (.fa 0 (.t 5)),oz 21 (.ld false 1 (.t 20)),oz 22 (.call DJ [(.t 21)]),mt 19 22,oz 23 (.ext (.t 19) 0),oz 24 (.ext (.t 19) 1),oz 6 (.alloc 66 (zz [(1, .s []),(1, .nils)])),on (.st 2 (.t 6) (.t 23)),mt 7 24] (.seq (.blk 0 (sf [mt 26 7,oz 27 (.un .not (.t 26)),mt 25 27] (.cond (.t 25) (sf [oz 28 (.bld Ae.zc []),on (.st 53 (.t 2) (.t 28)),oz 3 (.mv (ki 12))] .ret) (sf [mt 30 4,oz 31 (.len (.t 30)),oz 32 (.bin .sub (.t 31) (ki 1)),oz 33 (.fa 1 (.t 6)),oz 34 (.ld false 1 (.t 33)),oz 35 (.len (.t 34)),oz 36 (.bin .neq (.t 32) (.t 35)),mt 29 36] (.cond (.t 29) (sf [oz 37 (.bld Ae.zc []),on (.st 53 (.t 2) (.t 37)),oz 3 (.mv (ki 5))] .ret) .skip))))) (.seq (sf [oz 38 (.fa 1 (.t 6)),oz 39 (.ld false 1 (.t 38)),oz 40 (.len (.t 39)),oz 41 (.mv (ki 0))] (.blk 1 (.loop [2,4,5,39,40,41] TB))) (sf [oz 59 (.ld true 53 (.t 5)),on (.st 53 (.t 2) (.t 59)),oz 3 (.mv (ki 0))] .ret)))))))⟩
noncomputable def Ox:D9:=⟨false,2,38,[.tmp 4],(sf [oz 2 (.box 32 53 (.t 0)),oz 3 (.box 32 53 (.t 1)),oz 4 (.mv (.k (.b false)))] (sf [oz 5 (.fa 0 (.t 2)),oz 6 (.ld false 1 (.t 5)),oz 7 (.fa 0 (.t 3)),oz 8 (.ld false 1 (.t 7)),oz 9 (.bin .eql (.t 6) (.t 8)),mt 10 9,⟨some 11,some (10,true), .fa 1 (.t 2)⟩,⟨some 12,some (10,true), .ld false 1 (.t 11)⟩,⟨some 13,some (10,true), .fa 1 (.t 3)⟩,⟨some 14,some (10,true), .ld false 1 (.t 13)⟩,⟨some 15,some (10,true), .call IY [(.t 12),(.t 14)]⟩,oz 16 (.pick (.t 10) (.t 15) (.k (.b false))),mt 17 16,⟨some 18,some (17,true), .fa 2 (.t 2)⟩,⟨some 19,some (17,true), .ld true 18 (.t 18)⟩,⟨some 20,some (17,true), .fa 2 (.t 3)⟩,⟨some 21,some (17,true), .ld true 18 (.t 20)⟩,⟨some 22,some (17,true), .eq false (.agg (kk [(1, .i .i64),(16, .i .u8),(1, .i .i64)])) (.t 19) (.t 21)⟩,oz 23 (.pick (.t 17) (.t 22) (.k (.b false))),mt 24 23,⟨some 25,some (24,true), .fa 20 (.t 2)⟩,⟨some 26,some (24,true), .ld true 32 (.t 25)⟩,⟨some 27,some (24,true), .fa 20 (.t 3)⟩,⟨some 28,some (24,true), .ld true 32 (.t 27)⟩,⟨some 29,some (24,true), .eq false (.agg (kk [(32, .i .u8)])) (.t 26) (.t 28)⟩,oz 30 (.pick (.t 24) (.t 29) (.k (.b false))),mt 31 30,⟨some 32,some (31,true), .fa 52 (.t 2)⟩,⟨some 33,some (31,true), .ld false 1 (.t 32)⟩,⟨some 34,some (31,true), .fa 52 (.t 3)⟩,⟨some 35,some (31,true), .ld false 1 (.t 34)⟩,⟨some 36,some (31,true), .bin .eql (.t 33) (.t 35)⟩,oz 37 (.pick (.t 31) (.t 36) (.k (.b false))),mt 4 37] .ret))⟩
noncomputable def Xm:AC:=(.seq (sf [mt 16 8,oz 17 (.bin .leq (.t 16) (ki 6))] (.cond (.t 17) .skip (.exit 0))) (.seq (.blk 1 (sr [mt 20 5,mt 21 8,oz 22 (.ias 1 (.t 20) (.t 21)),oz 23 (.ld false 1 (.t 22)),mt 24 4,oz 25 (.ias 1 (.t 24) (ki 0)),oz 26 (.ld false 1 (.t 25)),oz 27 (.bin .eql (.t 23) (.t 26))] (.cond (.t 27) (rg false [mt 28 8,oz 29 (.fa 0 (.t 7)),on (.st 1 (.t 29) (.t 28))]) .skip))) (rg false [mt 18 8,oz 19 (.bin .add (.t 18) (ki 1)),mt 8 19])))
noncomputable def Xl:AC:=(.seq (sf [mt 45 9,mt 46 4,oz 47 (.len (.t 46)),oz 48 (.bin .lss (.t 45) (.t 47))] (.cond (.t 48) .skip (.exit 2))) (.seq (.blk 3 (.seq (.regd [oz 52 (.ld true 53 (.t 7)),mt 53 6,oz 54 (.fa 0 (.t 7)),oz 55 (.ld false 1 (.t 54)),oz 56 (.ias 1 (.t 53) (.t 55)),oz 57 (.ld false 1 (.t 56)),mt 58 9,oz 59 (.bin .sub (.t 58) (ki 1)),oz 60 (.ixs (.t 57) (.t 59)),mt 61 4,mt 62 9,oz 63 (.ias 1 (.t 61) (.t 62)),oz 64 (.ld false 1 (.t 63)),oz 65 (.call IW [(.t 52),(.t 60),(.t 64)]),mt 51 65,oz 66 (.ext (.t 51) 0),oz 67 (.ext (.t 51) 1),oz 10 (.alloc 32 Ae.zc),on (.st 53 (.t 10) (.t 66)),mt 11 67] [some (0,1),some (0,1),some (0,1),some (0,1),some (0,1),some (0,1),some (0,1),some (0,1),some (0,1),some (0,1),some (0,1),some (0,1),some (0,1),some (0,1),some (0,1),some (0,1),some (0,2),none,none,some (2,2)]) (.seq (sf [mt 68 11,oz 69 (.bin .neq (.t 68) (ki 0))] (.cond (.t 69) (sf [oz 70 (.bld Ae.zc []),mt 71 11,on (.st 53 (.t 2) (.t 70)),mt 3 71] .ret) .skip)) (rg false [oz 72 (.ld true 53 (.t 10)),on (.st 53 (.t 7) (.t 72))])))) (rg false [mt 49 9,oz 50 (.bin .add (.t 49) (ki 1)),mt 9 50])))
noncomputable def M5:D9:=⟨false,1,74,[.cell true 53 2, .tmp 3],(sf [oz 2 (.alloc 32 Ae.zc),oz 3 (.mv (ki 0))] (sf [mt 12 0,oz 13 (.call Eb [(.t 12),(.k (.i .u8 32))]),mt 4 13] (sf [oz 14 (.bls 9 1 (List.replicate 7 Ak.zc) [(0,(.k (.s []))),(1,(.k (.s [114,101,112,108,121]))),(2,(.k (.s [115,101,110,100]))),(3,(.k (.s [100,101,108,105,118,101,114]))),(4,(.k (.s [114,101,102,117,115,101]))),(5,(.k (.s [100,114,111,112]))),(6,(.k (.s [112,97,115,115])))]),mt 5 14] (sf [oz 15 (.bls 9 1 (List.replicate 7 Ak.zc) [(0,(.k (.s []))),(1,(.k (.s [98]))),(2,(.k (.s [116,107,98]))),(3,(.k (.s [107,98]))),(4,(.k (.s [98]))),(5,(.k (.s [119]))),(6,(.k (.s [116,98])))]),mt 6 15] (sf [oz 7 (.alloc 32 Ae.zc)] (.seq (sf [oz 8 (.mv (ki 1))] (.blk 0 (.loop [2,4,5,6,7,8] Xm))) (.seq (sf [oz 30 (.fa 0 (.t 7)),oz 31 (.ld false 1 (.t 30)),oz 32 (.bin .eql (.t 31) (ki 0))] (.cond (.t 32) (sf [oz 33 (.ld true 53 (.t 7)),on (.st 53 (.t 2) (.t 33)),oz 3 (.mv (ki 12))] .ret) .skip)) (.seq (sf [mt 34 4,oz 35 (.len (.t 34)),mt 36 6,oz 37 (.fa 0 (.t 7)),oz 38 (.ld false 1 (.t 37)),oz 39 (.ias 1 (.t 36) (.t 38)),oz 40 (.ld false 1 (.t 39)),oz 41 (.lens (.t 40)),oz 42 (.bin .add (.t 41) (ki 1)),oz 43 (.bin .neq (.t 35) (.t 42))] (.cond (.t 43) (sf [oz 44 (.bld Ae.zc []),on (.st 53 (.t 2) (.t 44)),oz 3 (.mv (ki 5))] .ret) .skip)) (.seq (sf [oz 9 (.mv (ki 1))] (.blk 2 (.loop [2,4,6,7,9] Xl))) (sf [oz 73 (.ld true 53 (.t 7)),on (.st 53 (.t 2) (.t 73)),oz 3 (.mv (ki 0))] .ret))))))))))⟩
noncomputable def L0:D9:=⟨false,2,38,[.tmp 4],(sf [oz 2 (.box 32 53 (.t 0)),oz 3 (.box 32 53 (.t 1)),oz 4 (.mv (.k (.b false)))] (sf [oz 5 (.fa 0 (.t 2)),oz 6 (.ld false 1 (.t 5)),oz 7 (.fa 0 (.t 3)),oz 8 (.ld false 1 (.t 7)),oz 9 (.bin .eql (.t 6) (.t 8)),mt 10 9,⟨some 11,some (10,true), .fa 1 (.t 2)⟩,⟨some 12,some (10,true), .ld false 1 (.t 11)⟩,⟨some 13,some (10,true), .fa 1 (.t 3)⟩,⟨some 14,some (10,true), .ld false 1 (.t 13)⟩,⟨some 15,some (10,true), .call Gt [(.t 12),(.t 14)]⟩,oz 16 (.pick (.t 10) (.t 15) (.k (.b false))),mt 17 16,⟨some 18,some (17,true), .fa 2 (.t 2)⟩,⟨some 19,some (17,true), .ld true 18 (.t 18)⟩,⟨some 20,some (17,true), .fa 2 (.t 3)⟩,⟨some 21,some (17,true), .ld true 18 (.t 20)⟩,⟨some 22,some (17,true), .eq false (.agg (kk [(1, .i .i64),(16, .i .u8),(1, .i .i64)])) (.t 19) (.t 21)⟩,oz 23 (.pick (.t 17) (.t 22) (.k (.b false))),mt 24 23,⟨some 25,some (24,true), .fa 20 (.t 2)⟩,⟨some 26,some (24,true), .ld true 32 (.t 25)⟩,⟨some 27,some (24,true), .fa 20 (.t 3)⟩,⟨some 28,some (24,true), .ld true 32 (.t 27)⟩,⟨some 29,some (24,true), .eq false (.agg (kk [(32, .i .u8)])) (.t 26) (.t 28)⟩,oz 30 (.pick (.t 24) (.t 29) (.k (.b false))),mt 31 30,⟨some 32,some (31,true), .fa 52 (.t 2)⟩,⟨some 33,some (31,true), .ld false 1 (.t 32)⟩,⟨some 34,some (31,true), .fa 52 (.t 3)⟩,⟨some 35,some (31,true), .ld false 1 (.t 34)⟩,⟨some 36,some (31,true), .bin .eql (.t 33) (.t 35)⟩,oz 37 (.pick (.t 31) (.t 36) (.k (.b false))),mt 4 37] .ret))⟩
noncomputable def Li:D9:=⟨true,1,40,[.cell true 2 2, .tmp 3],(sf [oz 2 (.alloc 66 (zz [(1, .s []),(1, .nils)])),oz 3 (.mv (.k (.b false)))] (.seq (sf [mt 4 0] (.blk 0 (sf [oz 6 (.bin .eql (.t 4) (ki 1)),mt 5 6] (.cond (.t 5) (sf [oz 7 (.call E1 []),oz 8 (.bls 72 3 (List.replicate 1 (zz [(3, .nilf)])) [(0,(.t 7))]),oz 9 (.bld (zz [(1, .s []),(1, .nils)]) [(0,1,(.k (.s [114,101,112,108,121]))),(1,1,(.t 8))]),on (.st 2 (.t 2) (.t 9)),oz 3 (.mv (.k (.b true)))] .ret) (sf [oz 11 (.bin .eql (.t 4) (ki 2)),mt 10 11] (.cond (.t 10) (sf [oz 12 (.call IV []),oz 13 (.call HZ []),oz 14 (.call E1 []),oz 15 (.bls 72 3 (List.replicate 3 (zz [(3, .nilf)])) [(0,(.t 12)),(1,(.t 13)),(2,(.t 14))]),oz 16 (.bld (zz [(1, .s []),(1, .nils)]) [(0,1,(.k (.s [115,101,110,100]))),(1,1,(.t 15))]),on (.st 2 (.t 2) (.t 16)),oz 3 (.mv (.k (.b true)))] .ret) (sf [oz 18 (.bin .eql (.t 4) (ki 3)),mt 17 18] (.cond (.t 17) (sf [oz 19 (.call HZ []),oz 20 (.call E1 []),oz 21 (.bls 72 3 (List.replicate 2 (zz [(3, .nilf)])) [(0,(.t 19)),(1,(.t 20))]),oz 22 (.bld (zz [(1, .s []),(1, .nils)]) [(0,1,(.k (.s [100,101,108,105,118,101,114]))),(1,1,(.t 21))]),on (.st 2 (.t 2) (.t 22)),oz 3 (.mv (.k (.b true)))] .ret) (sf [oz 24 (.bin .eql (.t 4) (ki 4)),mt 23 24] (.cond (.t 23) (sf [oz 25 (.call E1 []),oz 26 (.bls 72 3 (List.replicate 1 (zz [(3, .nilf)])) [(0,(.t 25))]),oz 27 (.bld (zz [(1, .s []),(1, .nils)]) [(0,1,(.k (.s [114,101,102,117,115,101]))),(1,1,(.t 26))]),on (.st 2 (.t 2) (.t 27)),oz 3 (.mv (.k (.b true)))] .ret)
    (sf [oz 29 (.bin .eql (.t 4) (ki 5)),mt 28 29] (.cond (.t 28) (sf [oz 30 (.call Ju []),oz 31 (.bls 72 3 (List.replicate 1 (zz [(3, .nilf)])) [(0,(.t 30))]),oz 32 (.bld (zz [(1, .s []),(1, .nils)]) [(0,1,(.k (.s [100,114,111,112]))),(1,1,(.t 31))]),on (.st 2 (.t 2) (.t 32)),oz 3 (.mv (.k (.b true)))] .ret) (sf [oz 34 (.bin .eql (.t 4) (ki 6)),mt 33 34] (.cond (.t 33) (sf [oz 35 (.call IV []),oz 36 (.call E1 []),oz 37 (.bls 72 3 (List.replicate 2 (zz [(3, .nilf)])) [(0,(.t 35)),(1,(.t 36))]),oz 38 (.bld (zz [(1, .s []),(1, .nils)]) [(0,1,(.k (.s [112,97,115,115]))),(1,1,(.t 37))]),on (.st 2 (.t 2) (.t 38)),oz 3 (.mv (.k (.b true)))] .ret) .skip)))))))))))))) (sf [oz 39 (.bld (zz [(1, .s []),(1, .nils)]) []),on (.st 2 (.t 2) (.t 39)),oz 3 (.mv (.k (.b false)))] .ret)))⟩
noncomputable def S4:AC:=(sf [oz 42 (.bin .lss (.t 41) (.t 40))] (.seq (.cond (.t 42) .skip (.exit 1)) (.seq (.blk 2 (sf [oz 43 (.ias 1 (.t 39) (.t 41)),oz 44 (.ld false 1 (.t 43)),mt 7 44] (.seq (sf [mt 45 7,oz 46 (.lens (.t 45)),mt 47 5,oz 48 (.bin .sub (ki 9223372036854775807) (.t 47)),oz 49 (.bin .gtr (.t 46) (.t 48))] (.cond (.t 49) (rg false [oz 50 (.mkif 9 (.k (.s [115,116,114,105,110,103,115,58,32,74,111,105,110,32,111,117,116,112,117,116,32,108,101,110,103,116,104,32,111,118,101,114,102,108,111,119]))),on (.die)]) .skip)) (rg false [mt 51 5,mt 52 7,oz 53 (.lens (.t 52)),oz 54 (.bin .add (.t 51) (.t 53)),mt 5 54])))) (rg false [oz 55 (.bin .add (.t 41) (ki 1)),mt 41 55]))))
noncomputable def S3:AC:=(sf [oz 66 (.bin .lss (.t 65) (.t 64))] (.seq (.cond (.t 66) .skip (.exit 3)) (.seq (.blk 4 (sf [oz 67 (.ias 1 (.t 63) (.t 65)),oz 68 (.ld false 1 (.t 67)),mt 10 68] (sf [mt 69 1,oz 70 (.call B5 [(.t 8),(.t 69)])] (rg false [mt 71 10,oz 72 (.call B5 [(.t 8),(.t 71)])])))) (rg false [oz 73 (.bin .add (.t 65) (ki 1)),mt 65 73]))))
noncomputable def J5:D9:=⟨false,2,75,[.tmp 4],(sf [oz 4 (.mv (.k (.s [])))] (.seq (sf [mt 11 0,oz 12 (.len (.t 11))] (.blk 0 (sf [oz 14 (.bin .eql (.t 12) (ki 0)),mt 13 14] (.cond (.t 13) (sf [oz 4 (.mv (.k (.s [])))] .ret) (sf [oz 16 (.bin .eql (.t 12) (ki 1)),mt 15 16] (.cond (.t 15) (sf [mt 17 0,oz 18 (.ias 1 (.t 17) (ki 0)),oz 19 (.ld false 1 (.t 18)),mt 4 19] .ret) .skip)))))) (sf [oz 5 (.mv (ki 0))] (.seq (sf [mt 20 1,oz 21 (.lens (.t 20)),oz 22 (.bin .gtr (.t 21) (ki 0))] (.cond (.t 22) (.seq (sf [mt 23 1,oz 24 (.lens (.t 23)),mt 25 0,oz 26 (.len (.t 25)),oz 27 (.bin .sub (.t 26) (ki 1)),oz 28 (.bin .quo (ki 9223372036854775807) (.t 27)),oz 29 (.bin .geq (.t 24) (.t 28))] (.cond (.t 29) (rg false [oz 30 (.mkif 9 (.k (.s [115,116,114,105,110,103,115,58,32,74,111,105,110,32,111,117,116,112,117,116,32,108,101,110,103,116,104,32,111,118,101,114,102,108,111,119]))),on (.die)]) .skip)) (rg false [mt 31 5,mt 32 1,oz 33 (.lens (.t 32)),mt 34 0,oz 35 (.len (.t 34)),oz 36 (.bin .sub (.t 35) (ki 1)),oz 37 (.bin .mul (.t 33) (.t 36)),oz 38 (.bin .add (.t 31) (.t 37)),mt 5 38])) .skip)) (.seq (sf [mt 39 0,oz 40 (.len (.t 39)),oz 41 (.mv (ki 0))] (.blk 1 (.loop [0,1,5,39,40,41] S4))) (sf [oz 8 (.alloc 107 (zz [(1, .nilp),(1, .nils)]))] (sf [mt 56 5,oz 57 (.call Dw [(.t 8),(.t 56)])] (sf [mt 58 0,oz 59 (.ias 1 (.t 58) (ki 0)),oz 60 (.ld false 1 (.t 59)),oz 61 (.call B5 [(.t 8),(.t 60)])] (.seq (sf [mt 62 0,oz 63 (.sll 1 (.t 62) (some (ki 1)) none),oz 64 (.len (.t 63)),oz 65 (.mv (ki 0))]
 (.blk 3 (.loop [1,8,63,64,65] S3))) (sf [oz 74 (.call Cz [(.t 8)]),mt 4 74] .ret))))))))))⟩
noncomputable def TC:AC:=(.blk 1 (sf [mt 10 0,mt 11 1,oz 12 (.call EV [(.t 10),(.t 11)]),mt 9 12,oz 13 (.ext (.t 9) 0),oz 14 (.ext (.t 9) 1),oz 15 (.ext (.t 9) 2),mt 6 13,mt 7 14,mt 8 15] (sf [mt 16 5,mt 17 6,oz 18 (.bll 1 (List.replicate 1 Ak.zc) [(0,(.t 17))]),oz 19 (.app 9 1 16 (.t 16) (.t 18)),mt 5 19] (.seq (sf [mt 20 8,oz 21 (.un .not (.t 20))] (.cond (.t 21) (sf [mt 22 5,mt 4 22] .ret) .skip)) (rg false [mt 23 7,mt 0 23])))))
noncomputable def Kz:D9:=⟨false,2,24,[.tmp 4],(sf [oz 4 (.mv (.k (.nils)))] (sf [oz 5 (.mv (.k (.nils)))] (.blk 0 (.loop [0,1,5] TC))))⟩
noncomputable def UY:AC:=(.seq (sf [mt 6 3,oz 7 (.bin .leq (.t 6) (ki 6))] (.cond (.t 7) .skip (.exit 0))) (.seq (.blk 1 (sf [mt 11 3,oz 12 (.call DJ [(.t 11)]),mt 10 12,oz 13 (.ext (.t 10) 0),oz 14 (.ext (.t 10) 1),oz 4 (.alloc 66 (zz [(1, .s []),(1, .nils)])),on (.st 2 (.t 4) (.t 13)),mt 5 14] (sf [oz 15 (.fa 0 (.t 4)),oz 16 (.ld false 1 (.t 15)),mt 17 0,oz 18 (.bin .eql (.t 16) (.t 17))] (.cond (.t 18) (sf [mt 19 3,mt 2 19] .ret) .skip)))) (rg false [mt 8 3,oz 9 (.bin .add (.t 8) (ki 1)),mt 3 9])))
noncomputable def Ly:D9:=⟨false,1,20,[.tmp 2],(sf [oz 2 (.mv (ki 0))] (.seq (sf [oz 3 (.mv (ki 1))] (.blk 0 (.loop [0,3] UY))) (sf [oz 2 (.mv (ki 0))] .ret)))⟩
noncomputable def Y7:AC:=(.seq (sf [mt 11 5,mt 12 0,oz 13 (.len (.t 12)),oz 14 (.bin .lss (.t 11) (.t 13))] (.cond (.t 14) .skip (.exit 0))) (.seq (.blk 1 (sr [mt 17 0,mt 18 5,oz 19 (.ias 1 (.t 17) (.t 18)),oz 20 (.ld false 1 (.t 19)),mt 21 1,mt 22 5,oz 23 (.ias 1 (.t 21) (.t 22)),oz 24 (.ld false 1 (.t 23)),oz 25 (.bin .neq (.t 20) (.t 24))] (.cond (.t 25) (sf [oz 4 (.mv (.k (.b false)))] .ret) .skip))) (rg false [mt 15 5,oz 16 (.bin .add (.t 15) (ki 1)),mt 5 16])))
noncomputable def O0:D9:=⟨false,2,26,[.tmp 4],(sf [oz 4 (.mv (.k (.b false)))] (.seq (sf [mt 6 0,oz 7 (.len (.t 6)),mt 8 1,oz 9 (.len (.t 8)),oz 10 (.bin .neq (.t 7) (.t 9))] (.cond (.t 10) (sf [oz 4 (.mv (.k (.b false)))] .ret) .skip)) (.seq (sf [oz 5 (.mv (ki 0))] (.blk 0 (.loop [0,1,5] Y7))) (sf [oz 4 (.mv (.k (.b true)))] .ret))))⟩
noncomputable def Xr:AC:=(.seq (sf [mt 8 7,mt 9 0,oz 10 (.lens (.t 9)),oz 11 (.bin .lss (.t 8) (.t 10))] (.cond (.t 11) .skip (.exit 0))) (.seq (.blk 1 (sf [mt 14 0,mt 15 7,oz 16 (.ixs (.t 14) (.t 15)),mt 17 1,oz 18 (.bin .eql (.t 16) (.t 17))] (.cond (.t 18) (sf [mt 19 6,mt 20 0,mt 21 5,mt 22 7,oz 23 (.sls (.t 20) (some (.t 21)) (some (.t 22))),oz 24 (.bll 1 (List.replicate 1 Ak.zc) [(0,(.t 23))]),oz 25 (.app 9 1 16 (.t 19) (.t 24)),mt 6 25] (rg false [mt 26 7,oz 27 (.bin .add (.t 26) (ki 1)),mt 5 27])) .skip))) (rg false [mt 12 7,oz 13 (.bin .add (.t 12) (ki 1)),mt 7 13])))
noncomputable def MA:D9:=⟨false,2,34,[.tmp 4],(sf [oz 4 (.mv (.k (.nils)))] (sf [oz 5 (.mv (ki 0))] (sf [oz 6 (.mv (.k (.nils)))] (.seq (sf [oz 7 (.mv (ki 0))] (.blk 0 (.loop [0,1,5,6,7] Xr))) (sf [mt 28 6,mt 29 0,mt 30 5,oz 31 (.sls (.t 29) (some (.t 30)) none),oz 32 (.bll 1 (List.replicate 1 Ak.zc) [(0,(.t 31))]),oz 33 (.app 9 1 16 (.t 28) (.t 32)),mt 4 33] .ret)))))⟩
noncomputable def Ow:D9:=⟨false,3,52,[.cell true 53 6, .tmp 7],(sf [oz 3 (.box 32 53 (.t 0)),oz 6 (.alloc 32 Ae.zc),oz 7 (.mv (ki 0))] (sf [oz 8 (.mv (ki 0))] (.seq (sf [mt 11 1,oz 12 (.bin .eql (.t 11) (.k (.i .u8 98)))] (.cond (.t 12) (rg false [mt 14 2,oz 15 (.call Ia [(.t 14)]),mt 13 15,oz 16 (.ext (.t 13) 0),oz 17 (.ext (.t 13) 1),oz 18 (.fa 1 (.t 3)),on (.st 1 (.t 18) (.t 16)),mt 8 17]) (sf [mt 19 1,oz 20 (.bin .eql (.t 19) (.k (.i .u8 107)))] (.cond (.t 20) (rg false [mt 22 2,oz 23 (.call F8 [(.t 22)]),mt 21 23,oz 24 (.ext (.t 21) 0),oz 25 (.ext (.t 21) 1),oz 26 (.fa 20 (.t 3)),on (.st 32 (.t 26) (.t 24)),mt 8 25]) (sf [mt 27 1,oz 28 (.bin .eql (.t 27) (.k (.i .u8 116)))] (.cond (.t 28) (rg false [mt 30 2,oz 31 (.call Ic [(.t 30)]),mt 29 31,oz 32 (.ext (.t 29) 0),oz 33 (.ext (.t 29) 1),oz 34 (.fa 2 (.t 3)),on (.st 18 (.t 34) (.t 32)),mt 8 33]) (sf [mt 36 2,oz 37 (.call G2 [(.t 36),(.k (.i .u64 20))]),mt 35 37,oz 38 (.ext (.t 35) 0),oz 39 (.ext (.t 35) 1),mt 9 38,mt 10 39] (sf [mt 40 10,mt 8 40] (.seq (sf [mt 41 8,oz 42 (.bin .eql (.t 41) (ki 0)),mt 43 42,⟨some 44,some (43,true), .mv (.t 9)⟩,⟨some 45,some (43,true), .bin .eql (.t 44) (.k (.i .u64 0))⟩,oz 46 (.pick (.t 43) (.t 45) (.k (.b false)))] (.cond (.t 46) (rg false [oz 8 (.mv (ki 6))]) .skip)) (rg false [mt 47 9,oz 48 (.cvi .i64 (.t 47)),oz 49 (.fa 52 (.t 3)),on (.st 1 (.t 49) (.t 48))])))))))))) (sf [oz 50 (.ld true 53 (.t 3)),mt 51 8,on (.st 53 (.t 6) (.t 50)),mt 7 51] .ret))))⟩
noncomputable def K4:D9:=⟨false,2,10,[.tmp 4],(sf [oz 4 (.mv (.k (.b false)))] (sf [mt 5 0,oz 6 (.cvs (.t 5)),mt 7 1,oz 8 (.cvs (.t 7)),oz 9 (.bin .eql (.t 6) (.t 8)),mt 4 9] .ret))⟩
noncomputable def Ov:D9:=⟨true,0,2,[.cell true 3 0],(sf [oz 0 (.alloc 72 (zz [(3, .nilf)]))] (sf [oz 1 (.bld (zz [(3, .nilf)]) [(0,1,(.f AZ)),(1,1,(.f Bc)),(2,1,(.f Bb))]),on (.st 3 (.t 0) (.t 1))] .ret))⟩
noncomputable def R3:D9:=⟨true,0,2,[.cell true 3 0],(sf [oz 0 (.alloc 72 (zz [(3, .nilf)]))] (sf [oz 1 (.bld (zz [(3, .nilf)]) [(0,1,(.f Cv)),(1,1,(.f C8)),(2,1,(.f C7))]),on (.st 3 (.t 0) (.t 1))] .ret))⟩
noncomputable def PH:D9:=⟨true,0,2,[.cell true 3 0],(sf [oz 0 (.alloc 72 (zz [(3, .nilf)]))] (sf [oz 1 (.bld (zz [(3, .nilf)]) [(0,1,(.f BS)),(1,1,(.f Cj)),(2,1,(.f Ci))]),on (.st 3 (.t 0) (.t 1))] .ret))⟩
noncomputable def PG:D9:=⟨true,0,2,[.cell true 3 0],(sf [oz 0 (.alloc 72 (zz [(3, .nilf)]))] (sf [oz 1 (.bld (zz [(3, .nilf)]) [(0,1,(.f Dk)),(1,1,(.f D3)),(2,1,(.f D2))]),on (.st 3 (.t 0) (.t 1))] .ret))⟩
noncomputable def Ga:D9:=⟨false,2,25,[],(sf [mt 4 0,oz 5 (.call BH [(.t 4)])] (.seq (sf [mt 6 1,oz 7 (.bin .lss (.t 6) (ki 0))] (.cond (.t 7) (rg false [oz 8 (.mkif 9 (.k (.s [115,116,114,105,110,103,115,46,66,117,105,108,100,101,114,46,71,114,111,119,58,32,110,101,103,97,116,105,118,101,32,99,111,117,110,116]))),on (.die)]) .skip)) (sr [mt 9 0,oz 10 (.nilc (.t 9)),oz 11 (.fa 1 (.t 10)),oz 12 (.ld false 1 (.t 11)),oz 13 (.capn (.t 12)),mt 14 0,oz 15 (.nilc (.t 14)),oz 16 (.fa 1 (.t 15)),oz 17 (.ld false 1 (.t 16)),oz 18 (.len (.t 17)),oz 19 (.bin .sub (.t 13) (.t 18)),mt 20 1,oz 21 (.bin .lss (.t 19) (.t 20))] (.cond (.t 21) (rg false [mt 22 0,mt 23 1,oz 24 (.call F4 [(.t 22),(.t 23)])]) .skip))))⟩
noncomputable def Es:D9:=⟨false,2,19,[.tmp 4, .tmp 5],(sf [oz 4 (.mv (ki 0)),oz 5 (.mv (.k (.nili)))] (sf [mt 6 0,oz 7 (.call BH [(.t 6)])] (sf [mt 8 0,mt 9 0,oz 10 (.nilc (.t 9)),oz 11 (.fa 1 (.t 10)),oz 12 (.ld false 1 (.t 11)),mt 13 1,oz 14 (.app 5 1 1 (.t 12) (.t 13)),oz 15 (.nilc (.t 8)),oz 16 (.fa 1 (.t 15)),on (.st 1 (.t 16) (.t 14))] (sf [mt 17 1,oz 18 (.lens (.t 17)),mt 4 18,oz 5 (.mv (.k (.nili)))] .ret))))⟩
noncomputable def Fv:D9:=⟨false,1,14,[.tmp 2],(sf [oz 2 (.mv (.k (.s [])))] (.seq (.regd [mt 3 0,oz 4 (.nilc (.t 3)),oz 5 (.fa 1 (.t 4)),oz 6 (.ld false 1 (.t 5)),oz 7 (.usd (.t 6)),mt 8 0,oz 9 (.nilc (.t 8)),oz 10 (.fa 1 (.t 9)),oz 11 (.ld false 1 (.t 10)),oz 12 (.len (.t 11)),oz 13 (.ust 5 (.t 7) (.t 12)),mt 2 13] [some (0,0),some (0,0),some (0,0),some (0,0),some (0,0),some (0,0),some (0,0),some (0,0),some (0,0),some (0,0),none,some (1,1)]) .ret))⟩
noncomputable def ME:D9:=⟨false,2,21,[.tmp 4, .tmp 5, .tmp 6],(sf [oz 4 (.mv (.k (.s []))),oz 5 (.mv (.k (.s []))),oz 6 (.mv (.k (.b false)))] (sf [mt 8 0,mt 9 1,oz 10 (.call Dl [(.t 8),(.t 9)]),mt 7 10] (.seq (sf [mt 11 7,oz 12 (.bin .lss (.t 11) (ki 0))] (.cond (.t 12) (sf [mt 13 0,mt 4 13,oz 5 (.mv (.k (.s []))),oz 6 (.mv (.k (.b false)))] .ret) .skip)) (sr [mt 14 0,mt 15 7,oz 16 (.sls (.t 14) none (some (.t 15))),mt 17 0,mt 18 7,oz 19 (.bin .add (.t 18) (ki 1)),oz 20 (.sls (.t 17) (some (.t 19)) none),mt 4 16,mt 5 20,oz 6 (.mv (.k (.b true)))] .ret))))⟩
noncomputable def MB:D9:=⟨false,1,7,[.tmp 2],(sf [oz 2 (.mv (.k (.s [])))] (sf [mt 3 0,mt 4 0,oz 5 (.bin .add (.t 4) (ki 1)),oz 6 (.sls (.k (.s [48,49,50,51,52,53,54,55,56,57,97,98,99,100,101,102])) (some (.t 3)) (some (.t 5))),mt 2 6] .ret))⟩
noncomputable def M4:D9:=⟨false,1,22,[.tmp 2, .tmp 3],(sf [oz 2 (.mv (.k (.nils))),oz 3 (.mv (ki 0))] (.seq (sf [mt 6 0,oz 7 (.bin .eql (.t 6) (.k (.s [45])))] (.cond (.t 7) (sf [oz 2 (.mv (.k (.nils))),oz 3 (.mv (ki 0))] .ret) .skip)) (sf [mt 9 0,oz 10 (.call FW [(.t 9)]),mt 8 10,oz 11 (.ext (.t 8) 0),oz 12 (.ext (.t 8) 1),mt 4 11,mt 5 12] (.seq (sf [mt 13 5,oz 14 (.bin .eql (.t 13) (ki 0)),mt 15 14,⟨some 16,some (15,true), .mv (.t 4)⟩,⟨some 17,some (15,true), .len (.t 16)⟩,⟨some 18,some (15,true), .bin .eql (.t 17) (ki 0)⟩,oz 19 (.pick (.t 15) (.t 18) (.k (.b false)))] (.cond (.t 19) (rg false [oz 5 (.mv (ki 5))]) .skip)) (sf [mt 20 4,mt 21 5,mt 2 20,mt 3 21] .ret)))))⟩
noncomputable def J6:D9:=⟨false,1,19,[.cell true 32 2, .tmp 3],(sf [oz 2 (.alloc 29 (T.arr 32 T.u8).zc),oz 3 (.mv (ki 0))] (sf [mt 7 0,oz 8 (.call FW [(.t 7)]),mt 6 8,oz 9 (.ext (.t 6) 0),oz 10 (.ext (.t 6) 1),mt 4 9,mt 5 10] (.seq (sf [mt 11 5,oz 12 (.bin .neq (.t 11) (ki 0))] (.cond (.t 12) (sf [oz 13 (.bld (T.arr 32 T.u8).zc []),mt 14 5,on (.st 32 (.t 2) (.t 13)),mt 3 14] .ret) .skip)) (sf [mt 15 4,oz 16 (.call LH [(.t 15)]),oz 17 (.ext (.t 16) 0),oz 18 (.ext (.t 16) 1),on (.st 32 (.t 2) (.t 17)),mt 3 18] .ret))))⟩
noncomputable def M6:D9:=⟨false,1,81,[.cell true 18 2, .tmp 3],(sf [oz 2 (.alloc 27 At.zc),oz 3 (.mv (ki 0))] (sf [oz 4 (.mv (.k (.s [])))] (sf [oz 5 (.mv (.k (.s [])))] (sf [oz 6 (.mv (.k (.b false)))] (sf [mt 13 0,oz 14 (.lens (.t 13)),oz 15 (.bin .gtr (.t 14) (ki 0)),mt 16 15,⟨some 17,some (16,true), .mv (.t 0)⟩,⟨some 18,some (16,true), .ixs (.t 17) (ki 0)⟩,⟨some 19,some (16,true), .bin .eql (.t 18) (.k (.i .u8 91))⟩,oz 20 (.pick (.t 16) (.t 19) (.k (.b false))),mt 7 20] (.seq (sf [mt 21 7] (.cond (.t 21) (rg false [mt 23 0,oz 24 (.sls (.t 23) (some (ki 1)) none),oz 25 (.call Ka [(.t 24)]),mt 22 25,oz 26 (.ext (.t 22) 0),oz 27 (.ext (.t 22) 1),oz 28 (.ext (.t 22) 2),mt 4 26,mt 5 27,mt 6 28]) (sf [mt 29 0,oz 30 (.call Eb [(.t 29),(.k (.i .u8 58))]),mt 8 30] (sf [mt 31 8,oz 32 (.len (.t 31)),oz 33 (.bin .gtr (.t 32) (ki 1)),mt 6 33] (sf [mt 34 8,oz 35 (.ias 1 (.t 34) (ki 0)),oz 36 (.ld false 1 (.t 35)),mt 4 36] (sf [mt 37 6] (.cond (.t 37) (rg false [mt 38 0,mt 39 8,oz 40 (.ias 1 (.t 39) (ki 0)),oz 41 (.ld false 1 (.t 40)),oz 42 (.lens (.t 41)),oz 43 (.bin .add (.t 42) (ki 1)),oz 44 (.sls (.t 38) (some (.t 43)) none),mt 5 44]) .skip))))))) (.seq (sf [mt 45 6,oz 46 (.un .not (.t 45)),mt 47 46,⟨some 48,some (47,false), .mv (.t 4)⟩,⟨some 49,some (47,false), .call Eb [(.t 48),(.k (.i .u8 58))]⟩,⟨some 50,some (47,false), .len (.t 49)⟩,⟨some 51,some (47,false), .bin .gtr (.t 50) (ki 1)⟩,⟨some 52,some (47,false), .mv (.t 7)⟩,⟨some 53,some (47,false), .eq true (.one (.b)) (.t 51) (.t 52)⟩,oz 54 (.pick (.t 47) (.k (.b true)) (.t 53))]
 (.cond (.t 54) (sf [oz 55 (.bld At.zc []),on (.st 18 (.t 2) (.t 55)),oz 3 (.mv (ki 5))] .ret) .skip)) (sf [mt 57 4,oz 58 (.call Id [(.t 57)]),mt 56 58,oz 59 (.ext (.t 56) 0),oz 60 (.ext (.t 56) 1),oz 9 (.alloc 25 Aw.zc),on (.st 17 (.t 9) (.t 59)),mt 10 60] (.seq (sf [mt 61 10,oz 62 (.bin .neq (.t 61) (ki 0))] (.cond (.t 62) (sf [oz 63 (.bld At.zc []),mt 64 10,on (.st 18 (.t 2) (.t 63)),mt 3 64] .ret) .skip)) (sf [mt 66 5,oz 67 (.call G2 [(.t 66),(.k (.i .u64 65535))]),mt 65 67,oz 68 (.ext (.t 65) 0),oz 69 (.ext (.t 65) 1),mt 11 68,mt 12 69] (.seq (sf [mt 70 12,oz 71 (.bin .neq (.t 70) (ki 0))] (.cond (.t 71) (sf [oz 72 (.bld At.zc []),mt 73 12,on (.st 18 (.t 2) (.t 72)),mt 3 73] .ret) .skip)) (.seq (sf [mt 74 11,oz 75 (.bin .eql (.t 74) (.k (.i .u64 0)))] (.cond (.t 75) (sf [oz 76 (.bld At.zc []),on (.st 18 (.t 2) (.t 76)),oz 3 (.mv (ki 6))] .ret) .skip)) (sf [oz 77 (.ld true 17 (.t 9)),mt 78 11,oz 79 (.cvi .i64 (.t 78)),oz 80 (.bld At.zc [(0,17,(.t 77)),(17,1,(.t 79))]),on (.st 18 (.t 2) (.t 80)),oz 3 (.mv (ki 0))] .ret)))))))))))))⟩
noncomputable def Y6:AC:=(.seq (sf [mt 29 7,mt 30 0,oz 31 (.lens (.t 30)),oz 32 (.bin .lss (.t 29) (.t 31))] (.cond (.t 32) .skip (.exit 0))) (.seq (.blk 1 (sf [mt 35 0,mt 36 7,oz 37 (.ixs (.t 35) (.t 36)),oz 38 (.cvi .u64 (.t 37)),oz 39 (.bin .sub (.t 38) (.k (.i .u64 48))),mt 8 39] (.seq (sf [mt 40 6,mt 41 1,oz 42 (.bin .quo (.t 41) (.k (.i .u64 10))),oz 43 (.bin .gtr (.t 40) (.t 42)),mt 44 43,⟨some 45,some (44,false), .mv (.t 6)⟩,⟨some 46,some (44,false), .bin .mul (.k (.i .u64 10)) (.t 45)⟩,⟨some 47,some (44,false), .mv (.t 1)⟩,⟨some 48,some (44,false), .mv (.t 8)⟩,⟨some 49,some (44,false), .mv (.t 1)⟩,⟨some 50,some (44,false), .mnx false (.t 48) (.t 49)⟩,⟨some 51,some (44,false), .bin .sub (.t 47) (.t 50)⟩,⟨some 52,some (44,false), .bin .gtr (.t 46) (.t 51)⟩,oz 53 (.pick (.t 44) (.k (.b true)) (.t 52)),mt 54 53,⟨some 55,some (54,false), .mv (.t 8)⟩,⟨some 56,some (54,false), .mv (.t 1)⟩,⟨some 57,some (54,false), .bin .gtr (.t 55) (.t 56)⟩,oz 58 (.pick (.t 54) (.k (.b true)) (.t 57))] (.cond (.t 58) (sf [oz 4 (.mv (.k (.i .u64 0))),oz 5 (.mv (ki 6))] .ret) .skip)) (rg false [mt 59 6,oz 60 (.bin .mul (.k (.i .u64 10)) (.t 59)),mt 61 8,oz 62 (.bin .add (.t 60) (.t 61)),mt 6 62])))) (rg false [mt 33 7,oz 34 (.bin .add (.t 33) (ki 1)),mt 7 34])))
noncomputable def Oz:D9:=⟨false,2,64,[.tmp 4, .tmp 5],(sf [oz 4 (.mv (.k (.i .u64 0))),oz 5 (.mv (ki 0))] (.seq (sf [mt 9 0,oz 10 (.lens (.t 9)),oz 11 (.bin .eql (.t 10) (ki 0)),mt 12 11,⟨some 13,some (12,false), .mv (.t 0)⟩,⟨some 14,some (12,false), .call Hk [(.t 13)]⟩,⟨some 15,some (12,false), .mv (.t 0)⟩,⟨some 16,some (12,false), .lens (.t 15)⟩,⟨some 17,some (12,false), .bin .lss (.t 14) (.t 16)⟩,oz 18 (.pick (.t 12) (.k (.b true)) (.t 17)),mt 19 18,⟨some 20,some (19,false), .mv (.t 0)⟩,⟨some 21,some (19,false), .lens (.t 20)⟩,⟨some 22,some (19,false), .bin .gtr (.t 21) (ki 1)⟩,⟨some 23,some (19,false), .mv (.t 22)⟩,⟨some 24,some (23,true), .mv (.t 0)⟩,⟨some 25,some (23,true), .ixs (.t 24) (ki 0)⟩,⟨some 26,some (23,true), .bin .eql (.t 25) (.k (.i .u8 48))⟩,⟨some 27,some (19,false), .pick (.t 23) (.t 26) (.k (.b false))⟩,oz 28 (.pick (.t 19) (.k (.b true)) (.t 27))] (.cond (.t 28) (sf [oz 4 (.mv (.k (.i .u64 0))),oz 5 (.mv (ki 5))] .ret) .skip)) (sf [oz 6 (.mv (.k (.i .u64 0)))] (.seq (sf [oz 7 (.mv (ki 0))] (.blk 0 (.loop [0,1,6,7] Y6))) (sf [mt 63 6,mt 4 63,oz 5 (.mv (ki 0))] .ret)))))⟩
noncomputable def Ih:D9:=⟨false,1,16,[.tmp 2],(sf [oz 1 (.box 27 18 (.t 0)),oz 2 (.mv (.k (.b false)))] (sf [oz 3 (.fa 0 (.t 1)),oz 4 (.ld true 17 (.t 3)),oz 5 (.call Fc [(.t 4)]),mt 6 5,⟨some 7,some (6,true), .fa 17 (.t 1)⟩,⟨some 8,some (6,true), .ld false 1 (.t 7)⟩,⟨some 9,some (6,true), .bin .geq (.t 8) (ki 1)⟩,oz 10 (.pick (.t 6) (.t 9) (.k (.b false))),mt 11 10,⟨some 12,some (11,true), .fa 17 (.t 1)⟩,⟨some 13,some (11,true), .ld false 1 (.t 12)⟩,⟨some 14,some (11,true), .bin .leq (.t 13) (ki 65535)⟩,oz 15 (.pick (.t 11) (.t 14) (.k (.b false))),mt 2 15] .ret))⟩
noncomputable def J4:D9:=⟨false,1,10,[.tmp 2],(sf [oz 1 (.box 32 53 (.t 0)),oz 2 (.mv (.k (.s [])))] (.seq (sf [oz 3 (.fa 1 (.t 1)),oz 4 (.ld false 1 (.t 3)),oz 5 (.len (.t 4)),oz 6 (.bin .eql (.t 5) (ki 0))] (.cond (.t 6) (sf [oz 2 (.mv (.k (.s [45])))] .ret) .skip)) (sf [oz 7 (.fa 1 (.t 1)),oz 8 (.ld false 1 (.t 7)),oz 9 (.call EL [(.t 8)]),mt 2 9] .ret)))⟩
noncomputable def S7:AC:=(sf [oz 9 (.bin .lss (.t 8) (.t 7))] (.seq (.cond (.t 9) .skip (.exit 0)) (.seq (.blk 1 (sf [oz 10 (.ias 1 (.t 6) (.t 8)),oz 11 (.ld false 1 (.t 10)),mt 5 11] (sf [mt 12 5,oz 13 (.bin .shr (.t 12) (.k (.i .u64 4))),oz 14 (.ixs (.k (.s [48,49,50,51,52,53,54,55,56,57,97,98,99,100,101,102])) (.t 13)),oz 15 (.call Cc [(.t 3),(.t 14)])] (rg false [mt 16 5,oz 17 (.bin .and (.t 16) (.k (.i .u8 15))),oz 18 (.ixs (.k (.s [48,49,50,51,52,53,54,55,56,57,97,98,99,100,101,102])) (.t 17)),oz 19 (.call Cc [(.t 3),(.t 18)])])))) (rg false [oz 20 (.bin .add (.t 8) (ki 1)),mt 8 20]))))
noncomputable def J7:D9:=⟨false,1,22,[.tmp 2],(sf [oz 2 (.mv (.k (.s [])))] (sf [oz 3 (.alloc 107 (zz [(1, .nilp),(1, .nils)]))] (.seq (sf [mt 6 0,oz 7 (.len (.t 6)),oz 8 (.mv (ki 0))] (.blk 0 (.loop [3,6,7,8] S7))) (sf [oz 21 (.call Cz [(.t 3)]),mt 2 21] .ret))))⟩
noncomputable def Mf:D9:=⟨true,2,14,[.tmp 4],(sf [oz 4 (.mv (ki 0))] (sf [mt 6 0,mt 7 1,oz 8 (.call F7 [(.t 7)]),mt 5 8,oz 9 (.ext (.t 5) 0),oz 10 (.ext (.t 5) 1),oz 11 (.nilc (.t 6)),oz 12 (.fa 1 (.t 11)),on (.st 1 (.t 12) (.t 9)),mt 4 10] (sf [mt 13 4,mt 4 13] .ret)))⟩
noncomputable def J3:D9:=⟨false,1,13,[.tmp 2, .tmp 3],(sf [oz 2 (.mv (.k (.nils))),oz 3 (.mv (ki 0))] (.seq (sf [mt 4 0] (.blk 0 (sf [oz 6 (.bin .eql (.t 4) (.k (.s [45]))),mt 5 6] (.cond (.t 5) (sf [oz 2 (.mv (.k (.nils))),oz 3 (.mv (ki 0))] .ret) (sf [oz 8 (.bin .eql (.t 4) (.k (.s []))),mt 7 8] (.cond (.t 7) (sf [oz 2 (.mv (.k (.nils))),oz 3 (.mv (ki 5))] .ret) .skip)))))) (sf [mt 9 0,oz 10 (.call EM [(.t 9)]),oz 11 (.ext (.t 10) 0),oz 12 (.ext (.t 10) 1),mt 2 11,mt 3 12] .ret)))⟩
noncomputable def Me:D9:=⟨true,1,6,[.tmp 2],(sf [oz 2 (.mv (.k (.b false)))] (sf [mt 3 0,oz 4 (.nilc (.t 3)),oz 5 (.fa 1 (.t 4)),on (.st 1 (.t 5) (.k (.nils)))] (sf [oz 2 (.mv (.k (.b true)))] .ret)))⟩
noncomputable def Lx:D9:=⟨false,1,6,[.tmp 2],(sf [oz 1 (.box 32 53 (.t 0)),oz 2 (.mv (.k (.s [])))] (sf [oz 3 (.fa 2 (.t 1)),oz 4 (.ld true 18 (.t 3)),oz 5 (.call Fj [(.t 4)]),mt 2 5] .ret))⟩
noncomputable def I9:D9:=⟨false,1,28,[.tmp 2],(sf [oz 1 (.box 27 18 (.t 0)),oz 2 (.mv (.k (.s [])))] (.seq (sf [oz 4 (.ld true 18 (.t 1)),oz 5 (.call Ee [(.t 4)]),oz 6 (.un .not (.t 5))] (.cond (.t 6) (sf [oz 2 (.mv (.k (.s [])))] .ret) .skip)) (sf [oz 7 (.fa 17 (.t 1)),oz 8 (.ld false 1 (.t 7)),oz 9 (.cvi .u64 (.t 8)),oz 10 (.call El [(.t 9)]),mt 3 10] (.seq (sf [oz 11 (.fa 0 (.t 1)),oz 12 (.ld true 17 (.t 11)),oz 13 (.call Hm [(.t 12)]),oz 14 (.bin .gtr (.t 13) (ki 32))] (.cond (.t 14) (sf [oz 15 (.fa 0 (.t 1)),oz 16 (.ld true 17 (.t 15)),oz 17 (.call GJ [(.t 16)]),oz 18 (.bin .add (.k (.s [91])) (.t 17)),oz 19 (.bin .add (.t 18) (.k (.s [93,58]))),mt 20 3,oz 21 (.bin .add (.t 19) (.t 20)),mt 2 21] .ret) .skip)) (sf [oz 22 (.fa 0 (.t 1)),oz 23 (.ld true 17 (.t 22)),oz 24 (.call GJ [(.t 23)]),oz 25 (.bin .add (.t 24) (.k (.s [58]))),mt 26 3,oz 27 (.bin .add (.t 25) (.t 26)),mt 2 27] .ret)))))⟩
noncomputable def Ou:D9:=⟨true,2,14,[.tmp 4],(sf [oz 4 (.mv (ki 0))] (sf [mt 6 0,mt 7 1,oz 8 (.call EF [(.t 7)]),mt 5 8,oz 9 (.ext (.t 5) 0),oz 10 (.ext (.t 5) 1),oz 11 (.nilc (.t 6)),oz 12 (.fa 2 (.t 11)),on (.st 18 (.t 12) (.t 9)),mt 4 10] (sf [mt 13 4,mt 4 13] .ret)))⟩
noncomputable def Ii:D9:=⟨false,1,46,[.cell true 18 2, .tmp 3],(sf [oz 2 (.alloc 27 At.zc),oz 3 (.mv (ki 0))] (sf [mt 11 0,oz 12 (.call Ez [(.t 11)]),mt 10 12,oz 13 (.ext (.t 10) 0),oz 14 (.ext (.t 10) 1),oz 15 (.ext (.t 10) 2),mt 4 13,mt 5 14,mt 6 15] (.seq (sf [mt 16 6,oz 17 (.un .not (.t 16))] (.cond (.t 17) (sf [oz 18 (.bld At.zc []),on (.st 18 (.t 2) (.t 18)),oz 3 (.mv (ki 5))] .ret) .skip)) (sf [mt 20 4,oz 21 (.call Hn [(.t 20)]),mt 19 21,oz 22 (.ext (.t 19) 0),oz 23 (.ext (.t 19) 1),oz 7 (.alloc 25 Aw.zc),on (.st 17 (.t 7) (.t 22)),mt 8 23] (.seq (sf [mt 24 8,oz 25 (.bin .neq (.t 24) (ki 0))] (.cond (.t 25) (sf [oz 26 (.bld At.zc []),mt 27 8,on (.st 18 (.t 2) (.t 26)),mt 3 27] .ret) .skip)) (sf [mt 29 5,oz 30 (.call Em [(.t 29),(.k (.i .u64 65535))]),mt 28 30,oz 31 (.ext (.t 28) 0),oz 32 (.ext (.t 28) 1),mt 9 31,mt 8 32] (.seq (.blk 0 (sf [mt 34 8,oz 35 (.bin .neq (.t 34) (ki 0)),mt 33 35] (.cond (.t 33) (sf [oz 36 (.bld At.zc []),mt 37 8,on (.st 18 (.t 2) (.t 36)),mt 3 37] .ret) (sf [mt 39 9,oz 40 (.bin .eql (.t 39) (.k (.i .u64 0))),mt 38 40] (.cond (.t 38) (sf [oz 41 (.bld At.zc []),on (.st 18 (.t 2) (.t 41)),oz 3 (.mv (ki 6))] .ret) .skip))))) (sf [oz 42 (.ld true 17 (.t 7)),mt 43 9,oz 44 (.cvi .i64 (.t 43)),oz 45 (.bld At.zc [(0,17,(.t 42)),(17,1,(.t 44))]),on (.st 18 (.t 2) (.t 45)),oz 3 (.mv (ki 0))] .ret))))))))⟩
noncomputable def Ot:D9:=⟨true,1,14,[.tmp 2],(sf [oz 2 (.mv (.k (.b false)))] (sf [mt 4 0,oz 5 (.nilc (.t 4)),oz 6 (.fa 2 (.t 5)),oz 7 (.ld true 18 (.t 6)),oz 8 (.call Ee [(.t 7)]),mt 3 8] (sf [mt 9 0,oz 10 (.bld At.zc []),oz 11 (.nilc (.t 9)),oz 12 (.fa 2 (.t 11)),on (.st 18 (.t 12) (.t 10))] (sf [mt 13 3,mt 2 13] .ret))))⟩
noncomputable def Kv:D9:=⟨false,1,6,[.tmp 2],(sf [oz 1 (.box 32 53 (.t 0)),oz 2 (.mv (.k (.s [])))] (sf [oz 3 (.fa 20 (.t 1)),oz 4 (.ld true 32 (.t 3)),oz 5 (.call IZ [(.t 4)]),mt 2 5] .ret))⟩
noncomputable def O1:D9:=⟨false,1,5,[.tmp 2],(sf [oz 1 (.box 29 32 (.t 0)),oz 2 (.mv (.k (.s [])))] (sf [oz 3 (.sla 32 1 (.t 1) none none),oz 4 (.call EL [(.t 3)]),mt 2 4] .ret))⟩
noncomputable def Nd:D9:=⟨true,2,14,[.tmp 4],(sf [oz 4 (.mv (ki 0))] (sf [mt 6 0,mt 7 1,oz 8 (.call Fi [(.t 7)]),mt 5 8,oz 9 (.ext (.t 5) 0),oz 10 (.ext (.t 5) 1),oz 11 (.nilc (.t 6)),oz 12 (.fa 20 (.t 11)),on (.st 32 (.t 12) (.t 9)),mt 4 10] (sf [mt 13 4,mt 4 13] .ret)))⟩
noncomputable def I8:D9:=⟨false,1,19,[.cell true 32 2, .tmp 3],(sf [oz 2 (.alloc 29 (T.arr 32 T.u8).zc),oz 3 (.mv (ki 0))] (sf [mt 7 0,oz 8 (.call EM [(.t 7)]),mt 6 8,oz 9 (.ext (.t 6) 0),oz 10 (.ext (.t 6) 1),mt 4 9,mt 5 10] (.seq (sf [mt 11 5,oz 12 (.bin .neq (.t 11) (ki 0))] (.cond (.t 12) (sf [oz 13 (.bld (T.arr 32 T.u8).zc []),mt 14 5,on (.st 32 (.t 2) (.t 13)),mt 3 14] .ret) .skip)) (sf [mt 15 4,oz 16 (.call Kc [(.t 15)]),oz 17 (.ext (.t 16) 0),oz 18 (.ext (.t 16) 1),on (.st 32 (.t 2) (.t 17)),mt 3 18] .ret))))⟩
noncomputable def Nc:D9:=⟨true,1,7,[.tmp 2],(sf [oz 2 (.mv (.k (.b false)))] (sf [mt 3 0,oz 4 (.bld (T.arr 32 T.u8).zc []),oz 5 (.nilc (.t 3)),oz 6 (.fa 20 (.t 5)),on (.st 32 (.t 6) (.t 4))] (sf [oz 2 (.mv (.k (.b true)))] .ret)))⟩
noncomputable def Ku:D9:=⟨false,1,7,[.tmp 2],(sf [oz 1 (.box 32 53 (.t 0)),oz 2 (.mv (.k (.s [])))] (sf [oz 3 (.fa 52 (.t 1)),oz 4 (.ld false 1 (.t 3)),oz 5 (.cvi .u64 (.t 4)),oz 6 (.call El [(.t 5)]),mt 2 6] .ret))⟩
noncomputable def JB:D9:=⟨false,1,5,[.tmp 2],(sf [oz 2 (.mv (.k (.s [])))] (sf [mt 3 0,oz 4 (.call Dy [(.t 3),(ki 10)]),mt 2 4] .ret))⟩
noncomputable def Nb:D9:=⟨true,2,28,[.tmp 4],(sf [oz 4 (.mv (ki 0))] (sf [mt 8 1,oz 9 (.call Em [(.t 8),(.k (.i .u64 20))]),mt 7 9,oz 10 (.ext (.t 7) 0),oz 11 (.ext (.t 7) 1),mt 5 10,mt 6 11] (sf [mt 12 0,mt 13 5,oz 14 (.cvi .i64 (.t 13)),oz 15 (.nilc (.t 12)),oz 16 (.fa 52 (.t 15)),on (.st 1 (.t 16) (.t 14))] (.seq (sf [mt 17 6,oz 18 (.bin .eql (.t 17) (ki 0)),mt 19 18,⟨some 20,some (19,true), .mv (.t 0)⟩,⟨some 21,some (19,true), .nilc (.t 20)⟩,⟨some 22,some (19,true), .fa 52 (.t 21)⟩,⟨some 23,some (19,true), .ld false 1 (.t 22)⟩,⟨some 24,some (19,true), .call GF [(.t 23)]⟩,⟨some 25,some (19,true), .un .not (.t 24)⟩,oz 26 (.pick (.t 19) (.t 25) (.k (.b false)))] (.cond (.t 26) (rg false [oz 6 (.mv (ki 6))]) .skip)) (sf [mt 27 6,mt 4 27] .ret)))))⟩
noncomputable def JC:D9:=⟨false,2,40,[.tmp 4, .tmp 5],(sf [oz 4 (.mv (.k (.i .u64 0))),oz 5 (.mv (ki 0))] (.seq (sf [mt 8 0,oz 9 (.bin .eql (.t 8) (.k (.s []))),mt 10 9,⟨some 11,some (10,false), .mv (.t 0)⟩,⟨some 12,some (10,false), .call EG [(.t 11)]⟩,⟨some 13,some (10,false), .mv (.t 0)⟩,⟨some 14,some (10,false), .lens (.t 13)⟩,⟨some 15,some (10,false), .bin .lss (.t 12) (.t 14)⟩,oz 16 (.pick (.t 10) (.k (.b true)) (.t 15)),mt 17 16,⟨some 18,some (17,false), .mv (.t 0)⟩,⟨some 19,some (17,false), .lens (.t 18)⟩,⟨some 20,some (17,false), .bin .gtr (.t 19) (ki 1)⟩,⟨some 21,some (17,false), .mv (.t 20)⟩,⟨some 22,some (21,true), .mv (.t 0)⟩,⟨some 23,some (21,true), .ixs (.t 22) (ki 0)⟩,⟨some 24,some (21,true), .bin .eql (.t 23) (.k (.i .u8 48))⟩,⟨some 25,some (17,false), .pick (.t 21) (.t 24) (.k (.b false))⟩,oz 26 (.pick (.t 17) (.k (.b true)) (.t 25))] (.cond (.t 26) (sf [oz 4 (.mv (.k (.i .u64 0))),oz 5 (.mv (ki 5))] .ret) .skip)) (sf [mt 28 0,oz 29 (.call FJ [(.t 28),(ki 10),(ki 64)]),mt 27 29,oz 30 (.ext (.t 27) 0),oz 31 (.ext (.t 27) 1),mt 6 30,mt 7 31] (.seq (sf [mt 32 7,oz 33 (.isni true (.t 32)),mt 34 33,⟨some 35,some (34,false), .mv (.t 6)⟩,⟨some 36,some (34,false), .mv (.t 1)⟩,⟨some 37,some (34,false), .bin .gtr (.t 35) (.t 36)⟩,oz 38 (.pick (.t 34) (.k (.b true)) (.t 37))] (.cond (.t 38) (sf [oz 4 (.mv (.k (.i .u64 0))),oz 5 (.mv (ki 6))] .ret) .skip)) (sf [mt 39 6,mt 4 39,oz 5 (.mv (ki 0))] .ret)))))⟩
noncomputable def M3:D9:=⟨false,1,9,[.tmp 2],(sf [oz 2 (.mv (.k (.b false)))] (sf [mt 3 0,oz 4 (.bin .geq (.t 3) (ki 1)),mt 5 4,⟨some 6,some (5,true), .mv (.t 0)⟩,⟨some 7,some (5,true), .bin .leq (.t 6) (ki 20)⟩,oz 8 (.pick (.t 5) (.t 7) (.k (.b false))),mt 2 8] .ret))⟩
noncomputable def Na:D9:=⟨true,1,13,[.tmp 2],(sf [oz 2 (.mv (.k (.b false)))] (sf [mt 4 0,oz 5 (.nilc (.t 4)),oz 6 (.fa 52 (.t 5)),oz 7 (.ld false 1 (.t 6)),oz 8 (.call GF [(.t 7)]),mt 3 8] (sf [mt 9 0,oz 10 (.nilc (.t 9)),oz 11 (.fa 52 (.t 10)),on (.st 1 (.t 11) (ki 0))] (sf [mt 12 3,mt 2 12] .ret))))⟩
noncomputable def EA:D9:=⟨false,1,20,[],(sf [mt 2 0,oz 3 (.nilc (.t 2)),oz 4 (.fa 0 (.t 3)),oz 5 (.ld false 1 (.t 4)),oz 6 (.eq false .p (.t 5) (.k (.nilp)))] (.cond (.t 6) (rg false [mt 7 0,mt 8 0,oz 9 (.cvp (.t 8)),oz 10 (.call FY [(.t 9)]),oz 11 (.cvu 107 2 (.t 10)),oz 12 (.nilc (.t 7)),oz 13 (.fa 0 (.t 12)),on (.st 1 (.t 13) (.t 11))]) (sf [mt 14 0,oz 15 (.nilc (.t 14)),oz 16 (.fa 0 (.t 15)),oz 17 (.ld false 1 (.t 16)),mt 18 0,oz 19 (.eqp true (.t 17) (.t 18))] (.cond (.t 19) .stop .skip))))⟩
noncomputable def Ge:D9:=⟨false,2,8,[.tmp 4],(sf [oz 4 (.mv (ki 0))] (sf [mt 5 0,mt 6 1,oz 7 (.call BL [(.t 5),(.t 6)]),mt 4 7] .ret))⟩
noncomputable def Va:AC:=(.seq (sf [mt 12 5,mt 13 0,oz 14 (.lens (.t 13)),oz 15 (.bin .lss (.t 12) (.t 14))] (.cond (.t 15) .skip (.exit 0))) (.seq (.blk 1 (sr [mt 18 0,mt 19 5,oz 20 (.ixs (.t 18) (.t 19)),oz 21 (.call FK [(.t 20),(.k (.b false))]),mt 22 0,mt 23 5,oz 24 (.bin .add (.t 23) (ki 1)),oz 25 (.ixs (.t 22) (.t 24)),oz 26 (.call FK [(.t 25),(.k (.b false))]),mt 6 21,mt 7 26] (.seq (sf [mt 27 6,oz 28 (.bin .lss (.t 27) (ki 0)),mt 29 28,⟨some 30,some (29,false), .mv (.t 7)⟩,⟨some 31,some (29,false), .bin .lss (.t 30) (ki 0)⟩,oz 32 (.pick (.t 29) (.k (.b true)) (.t 31))] (.cond (.t 32) (sf [oz 2 (.mv (.k (.nils))),oz 3 (.mv (ki 5))] .ret) .skip)) (rg false [mt 33 4,mt 34 6,oz 35 (.bin .mul (ki 16) (.t 34)),mt 36 7,oz 37 (.bin .add (.t 35) (.t 36)),oz 38 (.cvi .u8 (.t 37)),oz 39 (.bll 1 (List.replicate 1 T.u8.zc) [(0,(.t 38))]),oz 40 (.app 5 1 1 (.t 33) (.t 39)),mt 4 40])))) (rg false [mt 16 5,oz 17 (.bin .add (.t 16) (ki 2)),mt 5 17])))
noncomputable def L1:D9:=⟨false,1,42,[.tmp 2, .tmp 3],(sf [oz 2 (.mv (.k (.nils))),oz 3 (.mv (ki 0))] (.seq (sf [mt 8 0,oz 9 (.lens (.t 8)),oz 10 (.bin .rem (.t 9) (ki 2)),oz 11 (.bin .neq (.t 10) (ki 0))] (.cond (.t 11) (sf [oz 2 (.mv (.k (.nils))),oz 3 (.mv (ki 5))] .ret) .skip)) (sf [oz 4 (.mv (.k (.nils)))] (.seq (sf [oz 5 (.mv (ki 0))] (.blk 0 (.loop [0,4,5] Va))) (sf [mt 41 4,mt 2 41,oz 3 (.mv (ki 0))] .ret)))))⟩
noncomputable def iK:AC:=(.seq (sf [mt 14 5,oz 15 (.bin .lss (.t 14) (ki 32))] (.cond (.t 15) .skip (.exit 0))) (.seq (.blk 1 (rg false [mt 18 5,mt 19 0,mt 20 5,oz 21 (.ias 1 (.t 19) (.t 20)),oz 22 (.ld false 1 (.t 21)),oz 23 (.iaa 32 1 (.t 4) (.t 18)),on (.st 1 (.t 23) (.t 22))])) (rg false [mt 16 5,oz 17 (.bin .add (.t 16) (ki 1)),mt 5 17])))
noncomputable def S6:D9:=⟨false,1,25,[.cell true 32 2, .tmp 3],(sf [oz 2 (.alloc 29 (T.arr 32 T.u8).zc),oz 3 (.mv (ki 0))] (sf [oz 4 (.alloc 29 (T.arr 32 T.u8).zc)] (.seq (sf [mt 6 0,oz 7 (.len (.t 6)),oz 8 (.bin .lss (.t 7) (ki 32))] (.cond (.t 8) (sf [oz 9 (.ld true 32 (.t 4)),on (.st 32 (.t 2) (.t 9)),oz 3 (.mv (ki 3))] .ret) .skip)) (.seq (sf [mt 10 0,oz 11 (.len (.t 10)),oz 12 (.bin .gtr (.t 11) (ki 32))] (.cond (.t 12) (sf [oz 13 (.ld true 32 (.t 4)),on (.st 32 (.t 2) (.t 13)),oz 3 (.mv (ki 4))] .ret) .skip)) (.seq (sf [oz 5 (.mv (ki 0))] (.blk 0 (.loop [0,2,4,5] iK))) (sf [oz 24 (.ld true 32 (.t 4)),on (.st 32 (.t 2) (.t 24)),oz 3 (.mv (ki 0))] .ret))))))⟩
noncomputable def cB:AC:=(.seq (sf [mt 6 5,oz 7 (.bin .add (.t 6) (ki 1)),mt 8 0,oz 9 (.lens (.t 8)),oz 10 (.bin .lss (.t 7) (.t 9))] (.cond (.t 10) .skip (.exit 0))) (.seq (.blk 1 (sf [mt 13 0,mt 14 5,oz 15 (.ixs (.t 13) (.t 14)),oz 16 (.bin .eql (.t 15) (.k (.i .u8 93))),mt 17 16,⟨some 18,some (17,true), .mv (.t 0)⟩,⟨some 19,some (17,true), .mv (.t 5)⟩,⟨some 20,some (17,true), .bin .add (.t 19) (ki 1)⟩,⟨some 21,some (17,true), .ixs (.t 18) (.t 20)⟩,⟨some 22,some (17,true), .bin .eql (.t 21) (.k (.i .u8 58))⟩,oz 23 (.pick (.t 17) (.t 22) (.k (.b false)))] (.cond (.t 23) (sr [mt 24 0,mt 25 5,oz 26 (.sls (.t 24) none (some (.t 25))),mt 27 0,mt 28 5,oz 29 (.bin .add (.t 28) (ki 2)),oz 30 (.sls (.t 27) (some (.t 29)) none),mt 2 26,mt 3 30,oz 4 (.mv (.k (.b true)))] .ret) .skip))) (rg false [mt 11 5,oz 12 (.bin .add (.t 11) (ki 1)),mt 5 12])))
noncomputable def Ql:D9:=⟨false,1,31,[.tmp 2, .tmp 3, .tmp 4],(sf [oz 2 (.mv (.k (.s []))),oz 3 (.mv (.k (.s []))),oz 4 (.mv (.k (.b false)))] (.seq (sf [oz 5 (.mv (ki 0))] (.blk 0 (.loop [0,5] cB))) (sf [oz 2 (.mv (.k (.s []))),oz 3 (.mv (.k (.s []))),oz 4 (.mv (.k (.b false)))] .ret)))⟩
noncomputable def M7:D9:=⟨false,1,47,[.cell true 17 2, .tmp 3],(sf [oz 2 (.alloc 25 Aw.zc),oz 3 (.mv (ki 0))] (.seq (sf [mt 10 0,oz 11 (.call Eb [(.t 10),(.k (.i .u8 58))]),oz 12 (.len (.t 11)),oz 13 (.bin .gtr (.t 12) (ki 1))] (.cond (.t 13) (sf [mt 15 0,oz 16 (.call Ie [(.t 15)]),mt 14 16,oz 17 (.ext (.t 14) 0),oz 18 (.ext (.t 14) 1),oz 4 (.alloc 23 (T.arr 16 T.u8).zc),on (.st 16 (.t 4) (.t 17)),mt 5 18] (.seq (sf [mt 19 5,oz 20 (.un .not (.t 19))] (.cond (.t 20) (sf [oz 21 (.bld Aw.zc []),on (.st 17 (.t 2) (.t 21)),oz 3 (.mv (ki 5))] .ret) .skip)) (sf [oz 22 (.ld true 16 (.t 4)),oz 23 (.bld Aw.zc [(0,1,(ki 6)),(1,16,(.t 22))]),on (.st 17 (.t 2) (.t 23)),oz 3 (.mv (ki 0))] .ret))) .skip)) (sf [mt 25 0,oz 26 (.call GG [(.t 25)]),mt 24 26,oz 27 (.ext (.t 24) 0),oz 28 (.ext (.t 24) 1),oz 6 (.alloc 156 (T.arr 4 T.u8).zc),on (.st 4 (.t 6) (.t 27)),mt 7 28] (.seq (sf [mt 29 7,oz 30 (.bin .neq (.t 29) (ki 0))] (.cond (.t 30) (sf [oz 31 (.bld Aw.zc []),mt 32 7,on (.st 17 (.t 2) (.t 31)),mt 3 32] .ret) .skip)) (sf [oz 34 (.iaa 4 1 (.t 6) (ki 0)),oz 35 (.ld false 1 (.t 34)),oz 36 (.iaa 4 1 (.t 6) (ki 1)),oz 37 (.ld false 1 (.t 36)),oz 38 (.iaa 4 1 (.t 6) (ki 2)),oz 39 (.ld false 1 (.t 38)),oz 40 (.iaa 4 1 (.t 6) (ki 3)),oz 41 (.ld false 1 (.t 40)),oz 42 (.bll 1 (List.replicate 4 T.u8.zc) [(0,(.t 35)),(1,(.t 37)),(2,(.t 39)),(3,(.t 41))]),oz 43 (.call LG [(.t 42)]),mt 33 43,oz 44 (.ext (.t 33) 0),oz 45 (.ext (.t 33) 1),oz 8 (.alloc 25 Aw.zc),on (.st 17 (.t 8) (.t 44)),mt 9 45] (sf [oz 46 (.ld true 17 (.t 8)),on (.st 17 (.t 2) (.t 46)),oz 3 (.mv (ki 0))]
 .ret))))))⟩
noncomputable def Vb:AC:=(.seq (sf [mt 4 3,mt 5 0,oz 6 (.lens (.t 5)),oz 7 (.bin .lss (.t 4) (.t 6)),mt 8 7,⟨some 9,some (8,true), .mv (.t 0)⟩,⟨some 10,some (8,true), .mv (.t 3)⟩,⟨some 11,some (8,true), .ixs (.t 9) (.t 10)⟩,⟨some 12,some (8,true), .bin .geq (.t 11) (.k (.i .u8 48))⟩,oz 13 (.pick (.t 8) (.t 12) (.k (.b false))),mt 14 13,⟨some 15,some (14,true), .mv (.t 0)⟩,⟨some 16,some (14,true), .mv (.t 3)⟩,⟨some 17,some (14,true), .ixs (.t 15) (.t 16)⟩,⟨some 18,some (14,true), .bin .leq (.t 17) (.k (.i .u8 57))⟩,oz 19 (.pick (.t 14) (.t 18) (.k (.b false)))] (.cond (.t 19) .skip (.exit 0))) (.blk 1 (rg false [mt 20 3,oz 21 (.bin .add (.t 20) (ki 1)),mt 3 21])))
noncomputable def L2:D9:=⟨false,1,23,[.tmp 2],(sf [oz 2 (.mv (ki 0))] (sf [oz 3 (.mv (ki 0))] (.seq (.blk 0 (.loop [0,3] Vb)) (sf [mt 22 3,mt 2 22] .ret))))⟩
noncomputable def L6:D9:=⟨false,1,20,[.tmp 2],(sf [oz 1 (.box 25 17 (.t 0)),oz 2 (.mv (.k (.b false)))] (sr [oz 3 (.fa 0 (.t 1)),oz 4 (.ld false 1 (.t 3)),oz 5 (.bin .eql (.t 4) (ki 6)),mt 6 5,⟨some 7,some (6,false), .fa 0 (.t 1)⟩,⟨some 8,some (6,false), .ld false 1 (.t 7)⟩,⟨some 9,some (6,false), .bin .eql (.t 8) (ki 4)⟩,⟨some 10,some (6,false), .mv (.t 9)⟩,⟨some 11,some (10,true), .ld true 17 (.t 1)⟩,⟨some 12,some (10,true), .fa 1 (.t 1)⟩,⟨some 13,some (10,true), .sla 16 1 (.t 12) none (some (ki 4))⟩,⟨some 14,some (10,true), .s2a 4 1 (.t 13)⟩,⟨some 15,some (10,true), .ld true 4 (.t 14)⟩,⟨some 16,some (10,true), .call GK [(.t 15)]⟩,⟨some 17,some (10,true), .eq false (.agg (kk [(1, .i .i64),(16, .i .u8)])) (.t 11) (.t 16)⟩,⟨some 18,some (6,false), .pick (.t 10) (.t 17) (.k (.b false))⟩,oz 19 (.pick (.t 6) (.k (.b true)) (.t 18)),mt 2 19] .ret))⟩
noncomputable def GP:D9:=⟨false,2,9,[.tmp 4],(sf [oz 4 (.mv (.k (.b false)))] (sf [mt 5 0,mt 6 1,oz 7 (.call Fg [(.t 5),(.t 6)]),oz 8 (.bin .geq (.t 7) (ki 0)),mt 4 8] .ret))⟩
noncomputable def EB:D9:=⟨false,2,17,[.tmp 4],(sf [oz 4 (.mv (.k (.nili)))] (sf [mt 5 0,oz 6 (.call BH [(.t 5)])] (sf [mt 7 0,mt 8 0,oz 9 (.nilc (.t 8)),oz 10 (.fa 1 (.t 9)),oz 11 (.ld false 1 (.t 10)),mt 12 1,oz 13 (.bll 1 (List.replicate 1 T.u8.zc) [(0,(.t 12))]),oz 14 (.app 5 1 1 (.t 11) (.t 13)),oz 15 (.nilc (.t 7)),oz 16 (.fa 1 (.t 15)),on (.st 1 (.t 16) (.t 14))] (sf [oz 4 (.mv (.k (.nili)))] .ret))))⟩
noncomputable def S8:AC:=(.seq (sf [mt 14 5,mt 15 0,oz 16 (.lens (.t 15)),oz 17 (.bin .lss (.t 14) (.t 16))] (.cond (.t 17) .skip (.exit 0))) (.seq (.blk 1 (sf [mt 21 0,mt 22 5,oz 23 (.ixs (.t 21) (.t 22)),oz 24 (.call E6 [(.t 23)]),mt 20 24,oz 25 (.ext (.t 20) 0),oz 26 (.ext (.t 20) 1),mt 6 25,mt 7 26] (sf [mt 28 0,mt 29 5,oz 30 (.bin .add (.t 29) (ki 1)),oz 31 (.ixs (.t 28) (.t 30)),oz 32 (.call E6 [(.t 31)]),mt 27 32,oz 33 (.ext (.t 27) 0),oz 34 (.ext (.t 27) 1),mt 8 33,mt 9 34] (.seq (sf [mt 35 7,oz 36 (.un .not (.t 35)),mt 37 36,⟨some 38,some (37,false), .mv (.t 9)⟩,⟨some 39,some (37,false), .un .not (.t 38)⟩,oz 40 (.pick (.t 37) (.k (.b true)) (.t 39))] (.cond (.t 40) (sf [oz 2 (.mv (.k (.nils))),oz 3 (.mv (ki 5))] .ret) .skip)) (rg false [mt 41 4,mt 42 6,oz 43 (.bin .shl (.t 42) (.k (.i .u64 4))),mt 44 8,oz 45 (.bin .or (.t 43) (.t 44)),oz 46 (.cvi .u8 (.t 45)),oz 47 (.bll 1 (List.replicate 1 T.u8.zc) [(0,(.t 46))]),oz 48 (.app 5 1 1 (.t 41) (.t 47)),mt 4 48]))))) (rg false [mt 18 5,oz 19 (.bin .add (.t 18) (ki 2)),mt 5 19])))
noncomputable def J8:D9:=⟨false,1,50,[.tmp 2, .tmp 3],(sf [oz 2 (.mv (.k (.nils))),oz 3 (.mv (ki 0))] (.seq (sf [mt 10 0,oz 11 (.lens (.t 10)),oz 12 (.bin .rem (.t 11) (ki 2)),oz 13 (.bin .neq (.t 12) (ki 0))] (.cond (.t 13) (sf [oz 2 (.mv (.k (.nils))),oz 3 (.mv (ki 5))] .ret) .skip)) (sf [oz 4 (.mv (.k (.nils)))] (.seq (sf [oz 5 (.mv (ki 0))] (.blk 0 (.loop [0,4,5] S8))) (sf [mt 49 4,mt 2 49,oz 3 (.mv (ki 0))] .ret)))))⟩
noncomputable def L5:D9:=⟨false,1,11,[.tmp 2],(sf [oz 1 (.box 25 17 (.t 0)),oz 2 (.mv (ki 0))] (.seq (.blk 0 (sf [oz 4 (.ld true 17 (.t 1)),oz 5 (.call Fc [(.t 4)]),oz 6 (.un .not (.t 5)),mt 3 6] (.cond (.t 3) (sf [oz 2 (.mv (ki 0))] .ret) (sf [oz 8 (.fa 0 (.t 1)),oz 9 (.ld false 1 (.t 8)),oz 10 (.bin .eql (.t 9) (ki 4)),mt 7 10] (.cond (.t 7) (sf [oz 2 (.mv (ki 32))] .ret) .skip))))) (sf [oz 2 (.mv (ki 128))] .ret)))⟩
noncomputable def MH:D9:=⟨false,1,19,[.tmp 2],(sf [oz 1 (.box 25 17 (.t 0)),oz 2 (.mv (.k (.s [])))] (.seq (.blk 0 (sf [oz 4 (.ld true 17 (.t 1)),oz 5 (.call Fc [(.t 4)]),oz 6 (.un .not (.t 5)),mt 3 6] (.cond (.t 3) (sf [oz 2 (.mv (.k (.s [])))] .ret) (sf [oz 8 (.fa 0 (.t 1)),oz 9 (.ld false 1 (.t 8)),oz 10 (.bin .eql (.t 9) (ki 4)),mt 7 10] (.cond (.t 7) (sf [oz 11 (.fa 1 (.t 1)),oz 12 (.sla 16 1 (.t 11) none (some (ki 4))),oz 13 (.s2a 4 1 (.t 12)),oz 14 (.ld true 4 (.t 13)),oz 15 (.call Ig [(.t 14)]),mt 2 15] .ret) .skip))))) (sf [oz 16 (.fa 1 (.t 1)),oz 17 (.ld true 16 (.t 16)),oz 18 (.call Hl [(.t 17)]),mt 2 18] .ret)))⟩
noncomputable def H3:D9:=⟨false,1,35,[.tmp 2, .tmp 3, .tmp 4],(sf [oz 2 (.mv (.k (.s []))),oz 3 (.mv (.k (.s []))),oz 4 (.mv (.k (.b false)))] (.seq (sf [mt 11 0,oz 12 (.call DK [(.t 11),(.k (.s [91]))]),mt 10 12,oz 13 (.ext (.t 10) 0),oz 14 (.ext (.t 10) 1),mt 5 13,mt 6 14] (sf [mt 15 6] (.cond (.t 15) (sf [mt 17 5,oz 18 (.call Gp [(.t 17),(.k (.s [93,58]))]),mt 16 18,oz 19 (.ext (.t 16) 0),oz 20 (.ext (.t 16) 1),oz 21 (.ext (.t 16) 2),mt 7 19,mt 8 20,mt 9 21] (sf [mt 22 7,mt 23 8,mt 24 9,mt 25 24,⟨some 26,some (25,true), .mv (.t 7)⟩,⟨some 27,some (25,true), .call Ei [(.t 26),(.k (.s [58]))]⟩,oz 28 (.pick (.t 25) (.t 27) (.k (.b false))),mt 2 22,mt 3 23,mt 4 28] .ret)) .skip))) (sf [mt 29 0,oz 30 (.ixs (.k (.s [58])) (ki 0)),oz 31 (.call EV [(.t 29),(.t 30)]),oz 32 (.ext (.t 31) 0),oz 33 (.ext (.t 31) 1),oz 34 (.ext (.t 31) 2),mt 2 32,mt 3 33,mt 4 34] .ret)))⟩
noncomputable def L7:D9:=⟨false,1,40,[.cell true 17 2, .tmp 3],(sf [oz 2 (.alloc 25 Aw.zc),oz 3 (.mv (ki 0))] (.seq (sf [mt 12 0,oz 13 (.call EV [(.t 12),(.k (.i .u8 58))]),mt 11 13,oz 14 (.ext (.t 11) 0),oz 15 (.ext (.t 11) 1),oz 16 (.ext (.t 11) 2),mt 4 14,mt 5 15,mt 6 16] (sf [mt 17 6] (.cond (.t 17) (sf [mt 19 0,oz 20 (.call Gs [(.t 19)]),mt 18 20,oz 21 (.ext (.t 18) 0),oz 22 (.ext (.t 18) 1),oz 7 (.alloc 23 (T.arr 16 T.u8).zc),on (.st 16 (.t 7) (.t 21)),mt 8 22] (.seq (sf [mt 23 8,oz 24 (.bin .neq (.t 23) (ki 0))] (.cond (.t 24) (sf [oz 25 (.bld Aw.zc []),mt 26 8,on (.st 17 (.t 2) (.t 25)),mt 3 26] .ret) .skip)) (sf [oz 27 (.ld true 16 (.t 7)),oz 28 (.call Ja [(.t 27)]),on (.st 17 (.t 2) (.t 28)),oz 3 (.mv (ki 0))] .ret))) .skip))) (sf [mt 30 0,oz 31 (.call FX [(.t 30)]),mt 29 31,oz 32 (.ext (.t 29) 0),oz 33 (.ext (.t 29) 1),oz 9 (.alloc 156 (T.arr 4 T.u8).zc),on (.st 4 (.t 9) (.t 32)),mt 10 33] (.seq (sf [mt 34 10,oz 35 (.bin .neq (.t 34) (ki 0))] (.cond (.t 35) (sf [oz 36 (.bld Aw.zc []),mt 37 10,on (.st 17 (.t 2) (.t 36)),mt 3 37] .ret) .skip)) (sf [oz 38 (.ld true 4 (.t 9)),oz 39 (.call GK [(.t 38)]),on (.st 17 (.t 2) (.t 39)),oz 3 (.mv (ki 0))] .ret)))))⟩
noncomputable def Qn:D9:=⟨false,1,17,[.cell true 32 2, .tmp 3],(sf [oz 2 (.alloc 29 (T.arr 32 T.u8).zc),oz 3 (.mv (ki 0))] (.seq (.blk 0 (sf [mt 5 0,oz 6 (.len (.t 5)),oz 7 (.bin .lss (.t 6) (ki 32)),mt 4 7] (.cond (.t 4) (sf [oz 8 (.bld (T.arr 32 T.u8).zc []),on (.st 32 (.t 2) (.t 8)),oz 3 (.mv (ki 3))] .ret) (sf [mt 10 0,oz 11 (.len (.t 10)),oz 12 (.bin .gtr (.t 11) (ki 32)),mt 9 12] (.cond (.t 9) (sf [oz 13 (.bld (T.arr 32 T.u8).zc []),on (.st 32 (.t 2) (.t 13)),oz 3 (.mv (ki 4))] .ret) .skip))))) (sf [mt 14 0,oz 15 (.s2a 32 1 (.t 14)),oz 16 (.ld true 32 (.t 15)),on (.st 32 (.t 2) (.t 16)),oz 3 (.mv (ki 0))] .ret)))⟩
noncomputable def FP:D9:=⟨false,2,8,[.tmp 4],(sf [oz 4 (.mv (.k (.s [])))] (sf [mt 5 0,mt 6 1,oz 7 (.call Cd [(.t 5),(.t 6)]),mt 4 7] .ret))⟩
noncomputable def Q9:AC:=(sf [oz 7 (.nxt (.t 6)),oz 8 (.ext (.t 7) 0)] (.seq (.cond (.t 8) .skip (.exit 0)) (.blk 1 (sf [oz 9 (.ext (.t 7) 1),oz 10 (.ext (.t 7) 2),mt 3 9,mt 4 10] (sf [mt 11 4,oz 12 (.bin .lss (.t 11) (.k (.i .i32 48))),mt 13 12,⟨some 14,some (13,false), .mv (.t 4)⟩,⟨some 15,some (13,false), .bin .gtr (.t 14) (.k (.i .i32 57))⟩,oz 16 (.pick (.t 13) (.k (.b true)) (.t 15))] (.cond (.t 16) (sf [mt 17 3,mt 2 17] .ret) .skip))))))
noncomputable def Ij:D9:=⟨false,1,20,[.tmp 2],(sf [oz 2 (.mv (ki 0))] (.seq (sf [mt 5 0,oz 6 (.rng (.t 5))] (.blk 0 (.loop [0,6] Q9))) (sf [mt 18 0,oz 19 (.lens (.t 18)),mt 2 19] .ret)))⟩
noncomputable def CX:D9:=⟨false,2,8,[.tmp 4],(sf [oz 4 (.mv (ki 0))] (sf [mt 5 0,mt 6 1,oz 7 (.call C9 [(.t 5),(.t 6)]),mt 4 7] .ret))⟩
noncomputable def Xs:AC:=(.seq (sf [mt 6 5,oz 7 (.bin .lss (.t 6) (ki 16))] (.cond (.t 7) .skip (.exit 0))) (.seq (.blk 1 (sf [mt 10 5,oz 11 (.call GH [(.t 10)]),oz 12 (.ixs (.t 11) (ki 0)),mt 13 0,oz 14 (.bin .eql (.t 12) (.t 13)),mt 15 14,⟨some 16,some (15,false), .mv (.t 1)⟩,⟨some 17,some (15,false), .mv (.t 16)⟩,⟨some 18,some (17,true), .mv (.t 5)⟩,⟨some 19,some (17,true), .bin .gtr (.t 18) (ki 9)⟩,⟨some 20,some (15,false), .pick (.t 17) (.t 19) (.k (.b false))⟩,⟨some 21,some (15,false), .mv (.t 20)⟩,⟨some 22,some (21,true), .mv (.t 5)⟩,⟨some 23,some (21,true), .call GH [(.t 22)]⟩,⟨some 24,some (21,true), .ixs (.t 23) (ki 0)⟩,⟨some 25,some (21,true), .mv (.t 0)⟩,⟨some 26,some (21,true), .bin .add (.t 25) (.k (.i .u8 32))⟩,⟨some 27,some (21,true), .bin .eql (.t 24) (.t 26)⟩,⟨some 28,some (15,false), .pick (.t 21) (.t 27) (.k (.b false))⟩,oz 29 (.pick (.t 15) (.k (.b true)) (.t 28))] (.cond (.t 29) (sf [mt 30 5,mt 4 30] .ret) .skip))) (rg false [mt 8 5,oz 9 (.bin .add (.t 8) (ki 1)),mt 5 9])))
noncomputable def MC:D9:=⟨false,2,31,[.tmp 4],(sf [oz 4 (.mv (ki 0))] (.seq (sf [oz 5 (.mv (ki 0))] (.blk 0 (.loop [0,1,5] Xs))) (sf [oz 4 (.mv (ki (-1)))] .ret)))⟩
noncomputable def Xp:AC:=(.seq (sf [mt 63 13,mt 64 9,oz 65 (.len (.t 64)),oz 66 (.bin .lss (.t 63) (.t 65))] (.cond (.t 66) .skip (.exit 0))) (.seq (.blk 1 (rg false [mt 69 5,mt 70 9,mt 71 13,oz 72 (.ias 1 (.t 70) (.t 71)),oz 73 (.ld false 1 (.t 72)),oz 74 (.bll 1 (List.replicate 1 (T.int .i64).zc) [(0,(.t 73))]),oz 75 (.app 3 1 8 (.t 69) (.t 74)),mt 5 75])) (rg false [mt 67 13,oz 68 (.bin .add (.t 67) (ki 1)),mt 13 68])))
noncomputable def Xo:AC:=(.seq (sf [mt 76 5,oz 77 (.len (.t 76)),mt 78 11,oz 79 (.len (.t 78)),oz 80 (.bin .add (.t 77) (.t 79)),oz 81 (.bin .lss (.t 80) (ki 8))] (.cond (.t 81) .skip (.exit 2))) (.blk 3 (rg false [mt 82 5,oz 83 (.bll 1 (List.replicate 1 (T.int .i64).zc) [(0,(ki 0))]),oz 84 (.app 3 1 8 (.t 82) (.t 83)),mt 5 84])))
noncomputable def Xn:AC:=(.seq (sf [mt 88 14,oz 89 (.bin .lss (.t 88) (ki 8))] (.cond (.t 89) .skip (.exit 4))) (.seq (.blk 5 (sf [mt 92 14,oz 93 (.bin .mul (ki 2) (.t 92)),mt 94 5,mt 95 14,oz 96 (.ias 1 (.t 94) (.t 95)),oz 97 (.ld false 1 (.t 96)),oz 98 (.bin .quo (.t 97) (ki 256)),oz 99 (.cvi .u8 (.t 98)),oz 100 (.iaa 16 1 (.t 4) (.t 93)),on (.st 1 (.t 100) (.t 99))] (rg false [mt 101 14,oz 102 (.bin .mul (ki 2) (.t 101)),oz 103 (.bin .add (.t 102) (ki 1)),mt 104 5,mt 105 14,oz 106 (.ias 1 (.t 104) (.t 105)),oz 107 (.ld false 1 (.t 106)),oz 108 (.bin .rem (.t 107) (ki 256)),oz 109 (.cvi .u8 (.t 108)),oz 110 (.iaa 16 1 (.t 4) (.t 103)),on (.st 1 (.t 110) (.t 109))]))) (rg false [mt 90 14,oz 91 (.bin .add (.t 90) (ki 1)),mt 14 91])))
noncomputable def M8:D9:=⟨false,1,112,[.cell true 16 2, .tmp 3],(sf [oz 2 (.alloc 23 (T.arr 16 T.u8).zc),oz 3 (.mv (.k (.b false)))] (sf [oz 4 (.alloc 23 (T.arr 16 T.u8).zc)] (sf [oz 5 (.mv (.k (.nils)))] (sf [mt 15 0,oz 16 (.call Kb [(.t 15)]),mt 6 16] (.seq (sf [mt 17 6,oz 18 (.bin .lss (.t 17) (ki 0))] (.cond (.t 18) (sf [mt 20 0,oz 21 (.call G1 [(.t 20),(.k (.b true))]),mt 19 21,oz 22 (.ext (.t 19) 0),oz 23 (.ext (.t 19) 1),mt 7 22,mt 8 23] (.seq (sf [mt 24 8,oz 25 (.un .not (.t 24)),mt 26 25,⟨some 27,some (26,false), .mv (.t 7)⟩,⟨some 28,some (26,false), .len (.t 27)⟩,⟨some 29,some (26,false), .bin .neq (.t 28) (ki 8)⟩,oz 30 (.pick (.t 26) (.k (.b true)) (.t 29))] (.cond (.t 30) (sf [oz 31 (.ld true 16 (.t 4)),on (.st 16 (.t 2) (.t 31)),oz 3 (.mv (.k (.b false)))] .ret) .skip)) (rg false [mt 32 7,mt 5 32]))) (sf [mt 34 0,mt 35 6,oz 36 (.sls (.t 34) none (some (.t 35))),oz 37 (.call G1 [(.t 36),(.k (.b false))]),mt 33 37,oz 38 (.ext (.t 33) 0),oz 39 (.ext (.t 33) 1),mt 9 38,mt 10 39] (sf [mt 41 0,mt 42 6,oz 43 (.bin .add (.t 42) (ki 2)),oz 44 (.sls (.t 41) (some (.t 43)) none),oz 45 (.call G1 [(.t 44),(.k (.b true))]),mt 40 45,oz 46 (.ext (.t 40) 0),oz 47 (.ext (.t 40) 1),mt 11 46,mt 12 47] (.seq (sf [mt 48 10,oz 49 (.un .not (.t 48)),mt 50 49,⟨some 51,some (50,false), .mv (.t 12)⟩,⟨some 52,some (50,false), .un .not (.t 51)⟩,oz 53 (.pick (.t 50) (.k (.b true)) (.t 52)),mt 54 53,⟨some 55,some (54,false), .mv (.t 9)⟩,⟨some 56,some (54,false), .len (.t 55)⟩,⟨some 57,some (54,false), .mv (.t 11)⟩,⟨some 58,some (54,false), .len (.t 57)⟩,⟨some 59,some (54,false), .bin .add (.t 56) (.t 58)⟩,⟨some 60,some (54,false), .bin .gtr (.t 59) (ki 7)⟩,oz 61 (.pick (.t 54) (.k (.b true)) (.t 60))]
  (.cond (.t 61) (sf [oz 62 (.ld true 16 (.t 4)),on (.st 16 (.t 2) (.t 62)),oz 3 (.mv (.k (.b false)))] .ret) .skip)) (.seq (sf [oz 13 (.mv (ki 0))] (.blk 0 (.loop [2,4,5,9,11,13] Xp))) (.seq (.blk 2 (.loop [2,4,5,11] Xo)) (rg false [mt 85 5,mt 86 11,oz 87 (.app 3 1 8 (.t 85) (.t 86)),mt 5 87])))))))) (.seq (sf [oz 14 (.mv (ki 0))] (.blk 4 (.loop [2,4,5,14] Xn))) (sf [oz 111 (.ld true 16 (.t 4)),on (.st 16 (.t 2) (.t 111)),oz 3 (.mv (.k (.b true)))] .ret)))))))⟩
noncomputable def Xq:AC:=(.seq (sf [mt 15 6,oz 16 (.bin .lss (.t 15) (ki 4))] (.cond (.t 16) .skip (.exit 0))) (.seq (.blk 1 (sf [mt 20 5,mt 21 6,oz 22 (.ias 1 (.t 20) (.t 21)),oz 23 (.ld false 1 (.t 22)),oz 24 (.call G2 [(.t 23),(.k (.i .u64 255))]),mt 19 24,oz 25 (.ext (.t 19) 0),oz 26 (.ext (.t 19) 1),mt 7 25,mt 8 26] (.seq (sf [mt 27 8,oz 28 (.bin .neq (.t 27) (ki 0))] (.cond (.t 28) (sf [oz 29 (.bld (T.arr 4 T.u8).zc []),mt 30 8,on (.st 4 (.t 2) (.t 29)),mt 3 30] .ret) .skip)) (rg false [mt 31 6,mt 32 7,oz 33 (.cvi .u8 (.t 32)),oz 34 (.iaa 4 1 (.t 4) (.t 31)),on (.st 1 (.t 34) (.t 33))])))) (rg false [mt 17 6,oz 18 (.bin .add (.t 17) (ki 1)),mt 6 18])))
noncomputable def M9:D9:=⟨false,1,36,[.cell true 4 2, .tmp 3],(sf [oz 2 (.alloc 156 (T.arr 4 T.u8).zc),oz 3 (.mv (ki 0))] (sf [oz 4 (.alloc 156 (T.arr 4 T.u8).zc)] (sf [mt 9 0,oz 10 (.call Eb [(.t 9),(.k (.i .u8 46))]),mt 5 10] (.seq (sf [mt 11 5,oz 12 (.len (.t 11)),oz 13 (.bin .neq (.t 12) (ki 4))] (.cond (.t 13) (sf [oz 14 (.bld (T.arr 4 T.u8).zc []),on (.st 4 (.t 2) (.t 14)),oz 3 (.mv (ki 5))] .ret) .skip)) (.seq (sf [oz 6 (.mv (ki 0))] (.blk 0 (.loop [2,4,5,6] Xq))) (sf [oz 35 (.ld true 4 (.t 4)),on (.st 4 (.t 2) (.t 35)),oz 3 (.mv (ki 0))] .ret))))))⟩
noncomputable def iJ:AC:=(.seq (sf [mt 20 5,mt 21 0,oz 22 (.len (.t 21)),oz 23 (.bin .lss (.t 20) (.t 22))] (.cond (.t 23) .skip (.exit 0))) (.seq (.blk 1 (rg false [mt 26 5,mt 27 0,mt 28 5,oz 29 (.ias 1 (.t 27) (.t 28)),oz 30 (.ld false 1 (.t 29)),oz 31 (.fa 1 (.t 4)),oz 32 (.iaa 16 1 (.t 31) (.t 26)),on (.st 1 (.t 32) (.t 30))])) (rg false [mt 24 5,oz 25 (.bin .add (.t 24) (ki 1)),mt 5 25])))
noncomputable def S5:D9:=⟨false,1,34,[.cell true 17 2, .tmp 3],(sf [oz 2 (.alloc 25 Aw.zc),oz 3 (.mv (.k (.b false)))] (sf [oz 4 (.alloc 25 Aw.zc)] (.seq (sf [mt 6 0,oz 7 (.len (.t 6)),oz 8 (.bin .neq (.t 7) (ki 4)),mt 9 8,⟨some 10,some (9,true), .mv (.t 0)⟩,⟨some 11,some (9,true), .len (.t 10)⟩,⟨some 12,some (9,true), .bin .neq (.t 11) (ki 16)⟩,oz 13 (.pick (.t 9) (.t 12) (.k (.b false)))] (.cond (.t 13) (sf [oz 14 (.ld true 17 (.t 4)),on (.st 17 (.t 2) (.t 14)),oz 3 (.mv (.k (.b false)))] .ret) .skip)) (sf [oz 15 (.fa 0 (.t 4)),on (.st 1 (.t 15) (ki 4))] (.seq (sf [mt 16 0,oz 17 (.len (.t 16)),oz 18 (.bin .eql (.t 17) (ki 16))] (.cond (.t 18) (rg false [oz 19 (.fa 0 (.t 4)),on (.st 1 (.t 19) (ki 6))]) .skip)) (.seq (sf [oz 5 (.mv (ki 0))] (.blk 0 (.loop [0,2,4,5] iJ))) (sf [oz 33 (.ld true 17 (.t 4)),on (.st 17 (.t 2) (.t 33)),oz 3 (.mv (.k (.b true)))] .ret)))))))⟩
noncomputable def MI:D9:=⟨false,1,10,[.cell true 17 2],(sf [oz 1 (.box 156 4 (.t 0)),oz 2 (.alloc 25 Aw.zc)] (sf [oz 4 (.bld Aw.zc [(0,1,(ki 4))]),oz 3 (.alloc 25 Aw.zc),on (.st 17 (.t 3) (.t 4))] (.seq (.regd [oz 5 (.fa 1 (.t 3)),oz 6 (.sla 16 1 (.t 5) none none),oz 7 (.sla 4 1 (.t 1) none none),oz 8 (.cpy 1 (.t 6) (.t 7))] [some (0,0),some (0,0),some (0,0),none]) (sf [oz 9 (.ld true 17 (.t 3)),on (.st 17 (.t 2) (.t 9))] .ret))))⟩
noncomputable def I6:D9:=⟨false,2,8,[.tmp 4],(sf [oz 4 (.mv (ki 0))] (sf [mt 5 0,mt 6 1,oz 7 (.call CC [(.t 5),(.t 6)]),mt 4 7] .ret))⟩
noncomputable def K0:D9:=⟨false,1,11,[.tmp 2, .tmp 3],(sf [oz 2 (.mv (.k (.i .u16 0))),oz 3 (.mv (.k (.b false)))] (sf [mt 5 0,oz 6 (.call Dl [(.k (.s [48,49,50,51,52,53,54,55,56,57,97,98,99,100,101,102])),(.t 5)]),mt 4 6] (sf [mt 7 4,oz 8 (.cvi .u16 (.t 7)),mt 9 4,oz 10 (.bin .geq (.t 9) (ki 0)),mt 2 8,mt 3 10] .ret)))⟩
noncomputable def Xt:AC:=(sf [oz 8 (.bin .lss (.t 7) (ki 4))] (.seq (.cond (.t 8) .skip (.exit 0)) (.seq (.blk 1 (sf [mt 9 7,oz 10 (.ixa 4 1 false (.t 6) (.t 7)),mt 4 9,mt 5 10] (rg false [mt 11 4,mt 12 5,oz 13 (.cvi .u64 (.t 12)),oz 14 (.call El [(.t 13)]),oz 15 (.iaa 4 1 (.t 3) (.t 11)),on (.st 1 (.t 15) (.t 14))]))) (rg false [oz 16 (.bin .add (.t 7) (ki 1)),mt 7 16]))))
noncomputable def MD:D9:=⟨false,1,19,[.tmp 2],(sf [oz 1 (.box 156 4 (.t 0)),oz 2 (.mv (.k (.s [])))] (sf [oz 3 (.alloc 228 (T.arr 4 Ak).zc)] (.seq (sf [oz 6 (.ld true 4 (.t 1)),oz 7 (.mv (ki 0))] (.blk 0 (.loop [3,6,7] Xt))) (sf [oz 17 (.sla 4 1 (.t 3) none none),oz 18 (.call Ek [(.t 17),(.k (.s [46]))]),mt 2 18] .ret))))⟩
noncomputable def L4:D9:=⟨false,1,27,[.tmp 2],(sf [oz 1 (.box 23 16 (.t 0)),oz 2 (.mv (.k (.s [])))] (sf [oz 6 (.ld true 16 (.t 1)),oz 7 (.call FB [(.t 6)]),oz 3 (.alloc 229 (T.arr 8 T.u16).zc),on (.st 8 (.t 3) (.t 7))] (sf [oz 9 (.ld true 8 (.t 3)),oz 10 (.call Fk [(.t 9)]),mt 8 10,oz 11 (.ext (.t 8) 0),oz 12 (.ext (.t 8) 1),mt 4 11,mt 5 12] (.seq (sf [mt 13 5,oz 14 (.bin .lss (.t 13) (ki 2))] (.cond (.t 14) (sf [oz 15 (.sla 8 1 (.t 3) none none),oz 16 (.call FL [(.t 15)]),mt 2 16] .ret) .skip)) (sr [mt 17 4,oz 18 (.sla 8 1 (.t 3) none (some (.t 17))),oz 19 (.call FL [(.t 18)]),oz 20 (.bin .add (.t 19) (.k (.s [58,58]))),mt 21 4,mt 22 5,oz 23 (.bin .add (.t 21) (.t 22)),oz 24 (.sla 8 1 (.t 3) (some (.t 23)) none),oz 25 (.call FL [(.t 24)]),oz 26 (.bin .add (.t 20) (.t 25)),mt 2 26] .ret)))))⟩
noncomputable def Gg:D9:=⟨false,2,11,[.tmp 4, .tmp 5],(sf [oz 4 (.mv (.k (.s []))),oz 5 (.mv (.k (.b false)))] (sf [mt 6 0,mt 7 1,oz 8 (.call BM [(.t 6),(.t 7)]),oz 9 (.ext (.t 8) 0),oz 10 (.ext (.t 8) 1),mt 4 9,mt 5 10] .ret))⟩
noncomputable def Ky:D9:=⟨false,2,13,[.tmp 4, .tmp 5, .tmp 6],(sf [oz 4 (.mv (.k (.s []))),oz 5 (.mv (.k (.s []))),oz 6 (.mv (.k (.b false)))] (sf [mt 7 0,mt 8 1,oz 9 (.call C0 [(.t 7),(.t 8)]),oz 10 (.ext (.t 9) 0),oz 11 (.ext (.t 9) 1),oz 12 (.ext (.t 9) 2),mt 4 10,mt 5 11,mt 6 12] .ret))⟩
noncomputable def TE:AC:=(sf [oz 27 (.bin .lss (.t 26) (ki 8))] (.seq (.cond (.t 27) .skip (.exit 0)) (.seq (.blk 1 (sf [mt 28 26,oz 29 (.ixa 8 1 false (.t 25) (.t 26)),mt 8 28,mt 9 29] (rg false [mt 30 8,oz 31 (.bin .mul (ki 2) (.t 30)),mt 32 8,oz 33 (.bin .mul (ki 2) (.t 32)),oz 34 (.bin .add (.t 33) (ki 1)),mt 35 9,oz 36 (.bin .shr (.t 35) (.k (.i .u64 8))),oz 37 (.cvi .u8 (.t 36)),mt 38 9,oz 39 (.cvi .u8 (.t 38)),oz 40 (.iaa 16 1 (.t 7) (.t 31)),on (.st 1 (.t 40) (.t 37)),oz 41 (.iaa 16 1 (.t 7) (.t 34)),on (.st 1 (.t 41) (.t 39))]))) (rg false [oz 42 (.bin .add (.t 26) (ki 1)),mt 26 42]))))
noncomputable def K3:D9:=⟨false,1,44,[.cell true 16 2, .tmp 3],(sf [oz 2 (.alloc 23 (T.arr 16 T.u8).zc),oz 3 (.mv (ki 0))] (sf [oz 10 (.bld A7.zc [(9,1,(ki (-1)))]),oz 11 (.box 237 10 (.t 10)),mt 4 11] (.seq (sf [mt 12 4,mt 13 0,oz 14 (.call Ed [(.t 12),(.t 13)]),oz 15 (.un .not (.t 14))] (.cond (.t 15) (sf [oz 16 (.bld (T.arr 16 T.u8).zc []),on (.st 16 (.t 2) (.t 16)),oz 3 (.mv (ki 5))] .ret) .skip)) (sf [mt 18 4,oz 19 (.call D4 [(.t 18)]),mt 17 19,oz 20 (.ext (.t 17) 0),oz 21 (.ext (.t 17) 1),oz 5 (.alloc 229 (T.arr 8 T.u16).zc),on (.st 8 (.t 5) (.t 20)),mt 6 21] (.seq (sf [mt 22 6,oz 23 (.un .not (.t 22))] (.cond (.t 23) (sf [oz 24 (.bld (T.arr 16 T.u8).zc []),on (.st 16 (.t 2) (.t 24)),oz 3 (.mv (ki 5))] .ret) .skip)) (sf [oz 7 (.alloc 23 (T.arr 16 T.u8).zc)] (.seq (sf [oz 25 (.ld true 8 (.t 5)),oz 26 (.mv (ki 0))] (.blk 0 (.loop [2,7,25,26] TE))) (sf [oz 43 (.ld true 16 (.t 7)),on (.st 16 (.t 2) (.t 43)),oz 3 (.mv (ki 0))] .ret))))))))⟩
noncomputable def O2:D9:=⟨false,1,5,[.cell true 17 2],(sf [oz 1 (.box 23 16 (.t 0)),oz 2 (.alloc 25 Aw.zc)] (sf [oz 3 (.ld true 16 (.t 1)),oz 4 (.bld Aw.zc [(0,1,(ki 6)),(1,16,(.t 3))]),on (.st 17 (.t 2) (.t 4))] .ret))⟩
noncomputable def Vc:AC:=(sf [oz 19 (.bin .lss (.t 18) (.t 17))] (.seq (.cond (.t 19) .skip (.exit 0)) (.seq (.blk 1 (sf [mt 20 18,oz 21 (.ias 1 (.t 16) (.t 18)),oz 22 (.ld false 1 (.t 21)),mt 6 20,mt 7 22] (sf [mt 24 7,oz 25 (.call Em [(.t 24),(.k (.i .u64 255))]),mt 23 25,oz 26 (.ext (.t 23) 0),oz 27 (.ext (.t 23) 1),mt 8 26,mt 9 27] (.seq (sf [mt 28 9,oz 29 (.bin .neq (.t 28) (ki 0))] (.cond (.t 29) (sf [oz 30 (.bld (T.arr 4 T.u8).zc []),mt 31 9,on (.st 4 (.t 2) (.t 30)),mt 3 31] .ret) .skip)) (rg false [mt 32 6,mt 33 8,oz 34 (.cvi .u8 (.t 33)),oz 35 (.iaa 4 1 (.t 5) (.t 32)),on (.st 1 (.t 35) (.t 34))]))))) (rg false [oz 36 (.bin .add (.t 18) (ki 1)),mt 18 36]))))
noncomputable def L3:D9:=⟨false,1,38,[.cell true 4 2, .tmp 3],(sf [oz 2 (.alloc 156 (T.arr 4 T.u8).zc),oz 3 (.mv (ki 0))] (sf [mt 10 0,oz 11 (.call Fu [(.t 10),(.k (.i .u8 46))]),mt 4 11] (sf [oz 5 (.alloc 156 (T.arr 4 T.u8).zc)] (.seq (sf [mt 12 4,oz 13 (.len (.t 12)),oz 14 (.bin .neq (.t 13) (ki 4))] (.cond (.t 14) (sf [oz 15 (.ld true 4 (.t 5)),on (.st 4 (.t 2) (.t 15)),oz 3 (.mv (ki 5))] .ret) .skip)) (.seq (sf [mt 16 4,oz 17 (.len (.t 16)),oz 18 (.mv (ki 0))] (.blk 0 (.loop [2,5,16,17,18] Vc))) (sf [oz 37 (.ld true 4 (.t 5)),on (.st 4 (.t 2) (.t 37)),oz 3 (.mv (ki 0))] .ret))))))⟩
noncomputable def Dx:D9:=⟨false,2,32,[.tmp 4],(sf [oz 4 (.mv (.k (.s [])))] (.seq (sf [mt 9 1,oz 10 (.bin .eql (.t 9) (ki 10))] (.cond (.t 10) (.seq (sf [mt 11 0,oz 12 (.bin .lss (.t 11) (.k (.i .u64 100)))] (.cond (.t 12) (sf [mt 13 0,oz 14 (.cvi .i64 (.t 13)),oz 15 (.call CE [(.t 14)]),mt 4 15] .ret) .skip)) (sf [oz 5 (.alloc 240 (T.arr 24 T.u8).zc)] (sf [mt 16 0,oz 17 (.call Cm [(.t 16)]),mt 6 17] (sf [mt 18 6,oz 19 (.sla 24 1 (.t 5) none (some (.t 18))),mt 20 0,oz 21 (.call Ct [(.t 19),(.t 20)])] (sf [mt 22 6,oz 23 (.sla 24 1 (.t 5) none (some (.t 22))),oz 24 (.cvs (.t 23)),mt 4 24] .ret))))) .skip)) (sf [mt 26 0,mt 27 1,oz 28 (.call Kd [(.k (.nils)),(.t 26),(.t 27),(.k (.b false)),(.k (.b false))]),mt 25 28,oz 29 (.ext (.t 25) 0),oz 30 (.ext (.t 25) 1),mt 7 29,mt 8 30] (sf [mt 31 8,mt 4 31] .ret))))⟩
noncomputable def cC:AC:=(.seq (sf [mt 4 3,oz 5 (.bin .add (.t 4) (ki 1)),mt 6 0,oz 7 (.lens (.t 6)),oz 8 (.bin .lss (.t 5) (.t 7))] (.cond (.t 8) .skip (.exit 0))) (.seq (.blk 1 (sf [mt 11 0,mt 12 3,oz 13 (.ixs (.t 11) (.t 12)),oz 14 (.bin .eql (.t 13) (.k (.i .u8 58))),mt 15 14,⟨some 16,some (15,true), .mv (.t 0)⟩,⟨some 17,some (15,true), .mv (.t 3)⟩,⟨some 18,some (15,true), .bin .add (.t 17) (ki 1)⟩,⟨some 19,some (15,true), .ixs (.t 16) (.t 18)⟩,⟨some 20,some (15,true), .bin .eql (.t 19) (.k (.i .u8 58))⟩,oz 21 (.pick (.t 15) (.t 20) (.k (.b false)))] (.cond (.t 21) (sf [mt 22 3,mt 2 22] .ret) .skip))) (rg false [mt 9 3,oz 10 (.bin .add (.t 9) (ki 1)),mt 3 10])))
noncomputable def Qm:D9:=⟨false,1,23,[.tmp 2],(sf [oz 2 (.mv (ki 0))] (.seq (sf [oz 3 (.mv (ki 0))] (.blk 0 (.loop [0,3] cC))) (sf [oz 2 (.mv (ki (-1)))] .ret)))⟩
noncomputable def Y5:AC:=(.seq (sf [mt 16 8,mt 17 7,oz 18 (.len (.t 17)),oz 19 (.bin .lss (.t 16) (.t 18))] (.cond (.t 19) .skip (.exit 0))) (.seq (.blk 1 (sf [mt 22 7,mt 23 8,oz 24 (.ias 1 (.t 22) (.t 23)),oz 25 (.ld false 1 (.t 24)),oz 26 (.call Fh [(.t 25)]),mt 9 26] (.seq (sf [mt 27 9,oz 28 (.bin .geq (.t 27) (ki 0))] (.cond (.t 28) (sf [mt 29 6,mt 30 9,oz 31 (.bll 1 (List.replicate 1 (T.int .i64).zc) [(0,(.t 30))]),oz 32 (.app 3 1 8 (.t 29) (.t 31)),mt 6 32] (.exit 1)) .skip)) (sf [mt 34 7,mt 35 8,oz 36 (.ias 1 (.t 34) (.t 35)),oz 37 (.ld false 1 (.t 36)),oz 38 (.call GG [(.t 37)]),mt 33 38,oz 39 (.ext (.t 33) 0),oz 40 (.ext (.t 33) 1),oz 10 (.alloc 156 (T.arr 4 T.u8).zc),on (.st 4 (.t 10) (.t 39)),mt 11 40] (.seq (sf [mt 41 11,oz 42 (.bin .neq (.t 41) (ki 0)),mt 43 42,⟨some 44,some (43,false), .mv (.t 1)⟩,⟨some 45,some (43,false), .un .not (.t 44)⟩,oz 46 (.pick (.t 43) (.k (.b true)) (.t 45)),mt 47 46,⟨some 48,some (47,false), .mv (.t 8)⟩,⟨some 49,some (47,false), .mv (.t 7)⟩,⟨some 50,some (47,false), .len (.t 49)⟩,⟨some 51,some (47,false), .bin .sub (.t 50) (ki 1)⟩,⟨some 52,some (47,false), .bin .lss (.t 48) (.t 51)⟩,oz 53 (.pick (.t 47) (.k (.b true)) (.t 52))] (.cond (.t 53) (sf [oz 4 (.mv (.k (.nils))),oz 5 (.mv (.k (.b false)))] .ret) .skip)) (rg false [mt 54 6,oz 55 (.iaa 4 1 (.t 10) (ki 0)),oz 56 (.ld false 1 (.t 55)),oz 57 (.cvi .i64 (.t 56)),oz 58 (.bin .mul (ki 256) (.t 57)),oz 59 (.iaa 4 1 (.t 10) (ki 1)),oz 60 (.ld false 1 (.t 59)),oz 61 (.cvi .i64 (.t 60)),oz 62 (.bin .add (.t 58) (.t 61)),oz 63 (.iaa 4 1 (.t 10) (ki 2)),oz 64 (.ld false 1 (.t 63)),oz 65 (.cvi .i64 (.t 64)),oz 66 (.bin .mul (ki 256) (.t 65)),oz 67 (.iaa 4 1 (.t 10) (ki 3)),oz 68 (.ld false 1 (.t 67)),oz 69 (.cvi .i64 (.t 68)),oz 70 (.bin .add (.t 66) (.t 69)),oz 71 (.bll 1 (List.replicate 2 (T.int .i64).zc) [(0,(.t 62)),(1,(.t 70))]),oz 72 (.app 3 1 8 (.t 54) (.t 71)),mt 6 72]))))))
 (rg false [mt 20 8,oz 21 (.bin .add (.t 20) (ki 1)),mt 8 21])))
noncomputable def Oy:D9:=⟨false,2,74,[.tmp 4, .tmp 5],(sf [oz 4 (.mv (.k (.nils))),oz 5 (.mv (.k (.b false)))] (.seq (sf [mt 12 0,oz 13 (.bin .eql (.t 12) (.k (.s [])))] (.cond (.t 13) (sf [oz 4 (.mv (.k (.nils))),oz 5 (.mv (.k (.b true)))] .ret) .skip)) (sf [oz 6 (.mv (.k (.nils)))] (sf [mt 14 0,oz 15 (.call Eb [(.t 14),(.k (.i .u8 58))]),mt 7 15] (.seq (sf [oz 8 (.mv (ki 0))] (.blk 0 (.loop [1,6,7,8] Y5))) (sf [mt 73 6,mt 4 73,oz 5 (.mv (.k (.b true)))] .ret))))))⟩
noncomputable def SA:AC:=(sf [oz 8 (.bin .lss (.t 7) (ki 8))] (.seq (.cond (.t 8) .skip (.exit 0)) (.seq (.blk 1 (sf [mt 9 7,mt 4 9] (sf [mt 11 4,oz 12 (.bin .mul (ki 2) (.t 11)),mt 13 4,oz 14 (.bin .mul (ki 2) (.t 13)),oz 15 (.bin .add (.t 14) (ki 2)),oz 16 (.sla 16 1 (.t 1) (some (.t 12)) (some (.t 15))),oz 17 (.call FA [(.t 16)]),mt 10 17,oz 18 (.ext (.t 10) 0),oz 19 (.ext (.t 10) 1),mt 5 18,mt 6 19] (rg false [mt 20 4,mt 21 5,oz 22 (.cvi .u16 (.t 21)),oz 23 (.iaa 8 1 (.t 3) (.t 20)),on (.st 1 (.t 23) (.t 22))])))) (rg false [oz 24 (.bin .add (.t 7) (ki 1)),mt 7 24]))))
noncomputable def JD:D9:=⟨false,1,26,[.cell true 8 2],(sf [oz 1 (.box 23 16 (.t 0)),oz 2 (.alloc 229 (T.arr 8 T.u16).zc)] (sf [oz 3 (.alloc 229 (T.arr 8 T.u16).zc)] (.seq (sf [oz 7 (.mv (ki 0))] (.blk 0 (.loop [1,2,3,7] SA))) (sf [oz 25 (.ld true 8 (.t 3)),on (.st 8 (.t 2) (.t 25))] .ret))))⟩
noncomputable def R5:AC:=(sf [oz 9 (.bin .lss (.t 8) (ki 8))] (.seq (.cond (.t 9) .skip (.exit 0)) (.seq (.blk 1 (sf [mt 10 8,oz 11 (.ixa 8 1 false (.t 7) (.t 8)),mt 5 10,mt 6 11] (.seq (sf [mt 12 6,oz 13 (.bin .neq (.t 12) (.k (.i .u16 0)))] (.cond (.t 13) (sf [oz 4 (.mv (ki 0))] (.exit 1)) .skip)) (sf [mt 14 4,oz 15 (.bin .add (.t 14) (ki 1)),mt 4 15] (sf [mt 16 4,mt 17 3,oz 18 (.bin .gtr (.t 16) (.t 17))] (.cond (.t 18) (rg false [mt 19 5,oz 20 (.bin .add (.t 19) (ki 1)),mt 21 4,oz 22 (.bin .sub (.t 20) (.t 21)),mt 23 4,mt 2 22,mt 3 23]) .skip)))))) (rg false [oz 24 (.bin .add (.t 8) (ki 1)),mt 8 24]))))
noncomputable def IB:D9:=⟨false,1,27,[.tmp 2, .tmp 3],(sf [oz 1 (.box 229 8 (.t 0)),oz 2 (.mv (ki 0)),oz 3 (.mv (ki 0))] (sf [oz 4 (.mv (ki 0))] (.seq (sf [oz 7 (.ld true 8 (.t 1)),oz 8 (.mv (ki 0))] (.blk 0 (.loop [2,3,4,7,8] R5))) (sf [mt 25 2,mt 26 3,mt 2 25,mt 3 26] .ret))))⟩
noncomputable def Xu:AC:=(sf [oz 9 (.bin .lss (.t 8) (.t 7))] (.seq (.cond (.t 9) .skip (.exit 0)) (.seq (.blk 1 (sf [oz 10 (.ias 1 (.t 6) (.t 8)),oz 11 (.ld false 1 (.t 10)),mt 5 11] (rg false [mt 12 3,mt 13 5,oz 14 (.call Gr [(.t 13)]),oz 15 (.bll 1 (List.replicate 1 Ak.zc) [(0,(.t 14))]),oz 16 (.app 9 1 16 (.t 12) (.t 15)),mt 3 16]))) (rg false [oz 17 (.bin .add (.t 8) (ki 1)),mt 8 17]))))
noncomputable def MG:D9:=⟨false,1,20,[.tmp 2],(sf [oz 2 (.mv (.k (.s [])))] (sf [oz 3 (.mv (.k (.nils)))] (.seq (sf [mt 6 0,oz 7 (.len (.t 6)),oz 8 (.mv (ki 0))] (.blk 0 (.loop [3,6,7,8] Xu))) (sf [mt 18 3,oz 19 (.call Ek [(.t 18),(.k (.s [58]))]),mt 2 19] .ret))))⟩
noncomputable def CZ:D9:=⟨false,2,15,[.tmp 4, .tmp 5],(sf [oz 4 (.mv (.k (.s []))),oz 5 (.mv (.k (.b false)))] (.seq (sf [mt 6 0,mt 7 1,oz 8 (.call B2 [(.t 6),(.t 7)]),oz 9 (.un .not (.t 8))] (.cond (.t 9) (sf [mt 10 0,mt 4 10,oz 5 (.mv (.k (.b false)))] .ret) .skip)) (sf [mt 11 0,mt 12 1,oz 13 (.lens (.t 12)),oz 14 (.sls (.t 11) (some (.t 13)) none),mt 4 14,oz 5 (.mv (.k (.b true)))] .ret)))⟩
noncomputable def Eg:D9:=⟨false,2,23,[.tmp 4, .tmp 5, .tmp 6],(sf [oz 4 (.mv (.k (.s []))),oz 5 (.mv (.k (.s []))),oz 6 (.mv (.k (.b false)))] (.seq (sf [mt 8 0,mt 9 1,oz 10 (.call CC [(.t 8),(.t 9)]),mt 7 10] (sf [mt 11 7,oz 12 (.bin .geq (.t 11) (ki 0))] (.cond (.t 12) (sr [mt 13 0,mt 14 7,oz 15 (.sls (.t 13) none (some (.t 14))),mt 16 0,mt 17 7,mt 18 1,oz 19 (.lens (.t 18)),oz 20 (.bin .add (.t 17) (.t 19)),oz 21 (.sls (.t 16) (some (.t 20)) none),mt 4 15,mt 5 21,oz 6 (.mv (.k (.b true)))] .ret) .skip))) (sf [mt 22 0,mt 4 22,oz 5 (.mv (.k (.s []))),oz 6 (.mv (.k (.b false)))] .ret)))⟩
noncomputable def Nf:AC:=(.blk 1 (sf [mt 20 1,oz 21 (.call EV [(.t 20),(.k (.i .u8 58))]),mt 19 21,oz 22 (.ext (.t 19) 0),oz 23 (.ext (.t 19) 1),oz 24 (.ext (.t 19) 2),mt 5 22,mt 6 23,mt 7 24] (.seq (sf [mt 25 7,oz 26 (.un .not (.t 25))] (.cond (.t 26) (sf [mt 27 0,mt 28 5,oz 29 (.call Ec [(.t 27),(.t 28)]),mt 4 29] .ret) .skip)) (sf [mt 31 5,oz 32 (.call DE [(.t 31)]),mt 30 32,oz 33 (.ext (.t 30) 0),oz 34 (.ext (.t 30) 1),mt 8 33,mt 9 34] (.seq (sf [mt 35 9,oz 36 (.bin .neq (.t 35) (ki 0)),mt 37 36,⟨some 38,some (37,false), .mv (.t 0)⟩,⟨some 39,some (37,false), .mv (.t 8)⟩,⟨some 40,some (37,false), .call C4 [(.t 38),(.t 39)]⟩,⟨some 41,some (37,false), .un .not (.t 40)⟩,oz 42 (.pick (.t 37) (.k (.b true)) (.t 41))] (.cond (.t 42) (sf [oz 4 (.mv (.k (.b false)))] .ret) .skip)) (sf [mt 43 6,mt 1 43] (.seq (sf [mt 44 1,oz 45 (.call Dm [(.t 44),(.k (.s [58]))]),oz 46 (.un .not (.t 45))] (.cond (.t 46) (.exit 1) .skip)) (.seq (sf [mt 47 0,oz 48 (.nilc (.t 47)),oz 49 (.fa 9 (.t 48)),oz 50 (.ld false 1 (.t 49)),oz 51 (.bin .geq (.t 50) (ki 0))] (.cond (.t 51) (sf [oz 4 (.mv (.k (.b false)))] .ret) .skip)) (sf [mt 52 0,mt 53 0,oz 54 (.nilc (.t 53)),oz 55 (.fa 8 (.t 54)),oz 56 (.ld false 1 (.t 55)),oz 57 (.nilc (.t 52)),oz 58 (.fa 9 (.t 57)),on (.st 1 (.t 58) (.t 56))] (sf [mt 59 1,oz 60 (.sls (.t 59) (some (ki 1)) none),mt 1 60] (sf [mt 61 1,oz 62 (.bin .eql (.t 61) (.k (.s [])))] (.cond (.t 62) (sf [oz 4 (.mv (.k (.b true)))] .ret) .skip))))))))))))
noncomputable def Ht:D9:=⟨true,2,63,[.tmp 4],(sf [oz 4 (.mv (.k (.b false)))] (.seq (sf [mt 10 1,oz 11 (.call Dm [(.t 10),(.k (.s [58,58]))])] (.cond (.t 11) (sf [mt 12 0,oz 13 (.nilc (.t 12)),oz 14 (.fa 9 (.t 13)),on (.st 1 (.t 14) (ki 0))] (sf [mt 15 1,oz 16 (.sls (.t 15) (some (ki 2)) none),mt 1 16] (sf [mt 17 1,oz 18 (.bin .eql (.t 17) (.k (.s [])))] (.cond (.t 18) (sf [oz 4 (.mv (.k (.b true)))] .ret) .skip)))) .skip)) (.blk 0 (.loop [0,1] Nf))))⟩
noncomputable def Gv:D9:=⟨true,1,63,[.cell true 8 2, .tmp 3],(sf [oz 2 (.alloc 229 (T.arr 8 T.u16).zc),oz 3 (.mv (.k (.b false)))] (.seq (sf [mt 5 0,oz 6 (.nilc (.t 5)),oz 7 (.fa 9 (.t 6)),oz 8 (.ld false 1 (.t 7)),oz 9 (.bin .lss (.t 8) (ki 0))] (.cond (.t 9) (.seq (.regd [mt 10 0,oz 11 (.nilc (.t 10)),oz 12 (.fa 0 (.t 11)),oz 13 (.ld true 8 (.t 12)),mt 14 0,oz 15 (.nilc (.t 14)),oz 16 (.fa 8 (.t 15)),oz 17 (.ld false 1 (.t 16)),oz 18 (.bin .eql (.t 17) (ki 8)),on (.st 8 (.t 2) (.t 13)),mt 3 18] [some (0,0),some (0,0),some (0,0),some (0,0),some (0,1),some (0,1),some (0,1),some (0,1),some (0,1),none,some (1,1)]) .ret) .skip)) (.seq (sf [mt 19 0,oz 20 (.nilc (.t 19)),oz 21 (.fa 8 (.t 20)),oz 22 (.ld false 1 (.t 21)),oz 23 (.bin .eql (.t 22) (ki 8))] (.cond (.t 23) (sf [mt 24 0,oz 25 (.nilc (.t 24)),oz 26 (.fa 0 (.t 25)),oz 27 (.ld true 8 (.t 26)),on (.st 8 (.t 2) (.t 27)),oz 3 (.mv (.k (.b false)))] .ret) .skip)) (sf [oz 4 (.alloc 229 (T.arr 8 T.u16).zc)] (.seq (.regd [oz 28 (.sla 8 1 (.t 4) none none),mt 29 0,oz 30 (.nilc (.t 29)),oz 31 (.fa 0 (.t 30)),mt 32 0,oz 33 (.nilc (.t 32)),oz 34 (.fa 9 (.t 33)),oz 35 (.ld false 1 (.t 34)),oz 36 (.sla 8 1 (.t 31) none (some (.t 35))),oz 37 (.cpy 1 (.t 28) (.t 36))] [some (0,0),some (0,0),some (0,0),some (0,0),some (0,0),some (0,0),some (0,0),some (0,0),some (0,0),none]) (.seq (.regd [mt 38 0,oz 39 (.nilc (.t 38)),oz 40 (.fa 8 (.t 39)),oz 41 (.ld false 1 (.t 40)),oz 42 (.bin .sub (ki 8) (.t 41)),mt 43 0,oz 44 (.nilc (.t 43)),oz 45 (.fa 9 (.t 44)),oz 46 (.ld false 1 (.t 45)),oz 47 (.bin .add (.t 42) (.t 46)),oz 48 (.sla 8 1 (.t 4) (some (.t 47)) none),mt 49 0,oz 50 (.nilc (.t 49)),oz 51 (.fa 0 (.t 50)),mt 52 0,oz 53 (.nilc (.t 52)),oz 54 (.fa 9 (.t 53)),oz 55 (.ld false 1 (.t 54)),mt 56 0,oz 57 (.nilc (.t 56)),oz 58 (.fa 8 (.t 57)),oz 59 (.ld false 1 (.t 58)),oz 60 (.sla 8 1 (.t 51) (some (.t 55)) (some (.t 59))),oz 61 (.cpy 1 (.t 48) (.t 60))] [some (0,0),some (0,0),some (0,0),some (0,0),some (0,0),some (0,0),some (0,0),some (0,0),some (0,0),some (0,0),some (0,0),some (0,0),some (0,0),some (0,0),some (0,0),some (0,0),some (0,0),some (0,0),some (0,0),some (0,0),some (0,0),some (0,0),some (0,0),none])
 (sf [oz 62 (.ld true 8 (.t 4)),on (.st 8 (.t 2) (.t 62)),oz 3 (.mv (.k (.b true)))] .ret)))))))⟩
noncomputable def E2:D9:=⟨false,1,15,[.tmp 2],(sf [oz 2 (.mv (.k (.s [])))] (.seq (sf [mt 3 0,oz 4 (.bin .lss (.t 3) (ki 10))] (.cond (.t 4) (sf [mt 5 0,mt 6 0,oz 7 (.bin .add (.t 6) (ki 1)),oz 8 (.sls (.k (.s [48,49,50,51,52,53,54,55,56,57,97,98,99,100,101,102,103,104,105,106,107,108,109,110,111,112,113,114,115,116,117,118,119,120,121,122])) (some (.t 5)) (some (.t 7))),mt 2 8] .ret) .skip)) (sf [mt 9 0,oz 10 (.bin .mul (.t 9) (ki 2)),mt 11 0,oz 12 (.bin .mul (.t 11) (ki 2)),oz 13 (.bin .add (.t 12) (ki 2)),oz 14 (.sls (.k (.s Fx)) (some (.t 10)) (some (.t 13))),mt 2 14] .ret)))⟩
noncomputable def D6:D9:=⟨false,1,15,[.tmp 2],(sf [oz 2 (.mv (ki 0))] (sf [mt 4 0,oz 5 (.call Ew [(.t 4)]),oz 6 (.call Cn [(.t 5)]),mt 3 6] (sf [mt 7 3,mt 8 0,mt 9 3,oz 10 (.iaa 20 1 (.g 2) (.t 9)),oz 11 (.ld false 1 (.t 10)),oz 12 (.bin .geq (.t 8) (.t 11)),oz 13 (.call Co [(.t 12)]),oz 14 (.bin .add (.t 7) (.t 13)),mt 2 14] .ret)))⟩
noncomputable def IN:AC:=(.seq (sf [mt 19 4,oz 20 (.bin .geq (.t 19) (ki 8))] (.cond (.t 20) .skip (.exit 0))) (.blk 1 (sf [mt 21 1,oz 22 (.bin .rem (.t 21) (.k (.i .u64 100000000))),oz 23 (.cvi .u32 (.t 22)),mt 5 23] (sf [mt 24 1,oz 25 (.bin .quo (.t 24) (.k (.i .u64 100000000))),mt 1 25] (sf [mt 26 5,oz 27 (.bin .quo (.t 26) (.k (.i .u32 10000))),mt 28 5,oz 29 (.bin .rem (.t 28) (.k (.i .u32 10000))),mt 6 27,mt 7 29] (sf [mt 30 7,oz 31 (.bin .quo (.t 30) (.k (.i .u32 100))),oz 32 (.bin .mul (.t 31) (.k (.i .u32 2))),mt 33 7,oz 34 (.bin .rem (.t 33) (.k (.i .u32 100))),oz 35 (.bin .mul (.t 34) (.k (.i .u32 2))),mt 8 32,mt 9 35] (sf [mt 36 6,oz 37 (.bin .quo (.t 36) (.k (.i .u32 100))),oz 38 (.bin .mul (.t 37) (.k (.i .u32 2))),mt 39 6,oz 40 (.bin .rem (.t 39) (.k (.i .u32 100))),oz 41 (.bin .mul (.t 40) (.k (.i .u32 2))),mt 10 38,mt 11 41] (.seq (.regd [mt 42 0,mt 43 4,oz 44 (.bin .sub (.t 43) (ki 1)),mt 45 0,mt 46 4,oz 47 (.bin .sub (.t 46) (ki 2)),mt 48 9,oz 49 (.bin .add (.t 48) (.k (.i .u32 1))),oz 50 (.ixs (.k (.s Fx)) (.t 49)),mt 51 9,oz 52 (.ixs (.k (.s Fx)) (.t 51)),oz 53 (.ias 1 (.t 42) (.t 44)),on (.st 1 (.t 53) (.t 50)),oz 54 (.ias 1 (.t 45) (.t 47)),on (.st 1 (.t 54) (.t 52))] [some (0,0),some (0,0),some (0,0),some (0,1),some (0,1),some (0,1),some (0,0),some (0,0),some (0,0),some (0,1),some (0,1),some (0,0),none,some (1,1),none]) (.seq (.regd [mt 55 0,mt 56 4,oz 57 (.bin .sub (.t 56) (ki 3)),mt 58 0,mt 59 4,oz 60 (.bin .sub (.t 59) (ki 4)),mt 61 8,oz 62 (.bin .add (.t 61) (.k (.i .u32 1))),oz 63 (.ixs (.k (.s Fx)) (.t 62)),mt 64 8,oz 65 (.ixs (.k (.s Fx)) (.t 64)),oz 66 (.ias 1 (.t 55) (.t 57)),on (.st 1 (.t 66) (.t 63)),oz 67 (.ias 1 (.t 58) (.t 60)),on (.st 1 (.t 67) (.t 65))] [some (0,0),some (0,0),some (0,0),some (0,1),some (0,1),some (0,1),some (0,0),some (0,0),some (0,0),some (0,1),some (0,1),some (0,0),none,some (1,1),none])
  (.seq (.regd [mt 68 0,mt 69 4,oz 70 (.bin .sub (.t 69) (ki 5)),mt 71 0,mt 72 4,oz 73 (.bin .sub (.t 72) (ki 6)),mt 74 11,oz 75 (.bin .add (.t 74) (.k (.i .u32 1))),oz 76 (.ixs (.k (.s Fx)) (.t 75)),mt 77 11,oz 78 (.ixs (.k (.s Fx)) (.t 77)),oz 79 (.ias 1 (.t 68) (.t 70)),on (.st 1 (.t 79) (.t 76)),oz 80 (.ias 1 (.t 71) (.t 73)),on (.st 1 (.t 80) (.t 78))] [some (0,0),some (0,0),some (0,0),some (0,1),some (0,1),some (0,1),some (0,0),some (0,0),some (0,0),some (0,1),some (0,1),some (0,0),none,some (1,1),none]) (.seq (.regd [mt 81 0,mt 82 4,oz 83 (.bin .sub (.t 82) (ki 7)),mt 84 0,mt 85 4,oz 86 (.bin .sub (.t 85) (ki 8)),mt 87 10,oz 88 (.bin .add (.t 87) (.k (.i .u32 1))),oz 89 (.ixs (.k (.s Fx)) (.t 88)),mt 90 10,oz 91 (.ixs (.k (.s Fx)) (.t 90)),oz 92 (.ias 1 (.t 81) (.t 83)),on (.st 1 (.t 92) (.t 89)),oz 93 (.ias 1 (.t 84) (.t 86)),on (.st 1 (.t 93) (.t 91))] [some (0,0),some (0,0),some (0,0),some (0,1),some (0,1),some (0,1),some (0,0),some (0,0),some (0,0),some (0,1),some (0,1),some (0,0),none,some (1,1),none]) (rg false [mt 94 4,oz 95 (.bin .sub (.t 94) (ki 8)),mt 4 95]))))))))))))
noncomputable def Et:D9:=⟨true,2,167,[],(sf [mt 17 0,oz 18 (.len (.t 17)),mt 4 18] (.seq (.blk 0 (.loop [0,1,4] IN)) (sf [mt 96 1,oz 97 (.cvi .u32 (.t 96)),mt 12 97] (.seq (sf [mt 98 4,oz 99 (.bin .geq (.t 98) (ki 4))] (.cond (.t 99) (sf [mt 100 12,oz 101 (.bin .rem (.t 100) (.k (.i .u32 10000))),mt 13 101] (sf [mt 102 12,oz 103 (.bin .quo (.t 102) (.k (.i .u32 10000))),mt 12 103] (sf [mt 104 13,oz 105 (.bin .quo (.t 104) (.k (.i .u32 100))),oz 106 (.bin .mul (.t 105) (.k (.i .u32 2))),mt 107 13,oz 108 (.bin .rem (.t 107) (.k (.i .u32 100))),oz 109 (.bin .mul (.t 108) (.k (.i .u32 2))),mt 14 106,mt 15 109] (.seq (.regd [mt 110 0,mt 111 4,oz 112 (.bin .sub (.t 111) (ki 1)),mt 113 0,mt 114 4,oz 115 (.bin .sub (.t 114) (ki 2)),mt 116 15,oz 117 (.bin .add (.t 116) (.k (.i .u32 1))),oz 118 (.ixs (.k (.s Fx)) (.t 117)),mt 119 15,oz 120 (.ixs (.k (.s Fx)) (.t 119)),oz 121 (.ias 1 (.t 110) (.t 112)),on (.st 1 (.t 121) (.t 118)),oz 122 (.ias 1 (.t 113) (.t 115)),on (.st 1 (.t 122) (.t 120))] [some (0,0),some (0,0),some (0,0),some (0,1),some (0,1),some (0,1),some (0,0),some (0,0),some (0,0),some (0,1),some (0,1),some (0,0),none,some (1,1),none]) (.seq (.regd [mt 123 0,mt 124 4,oz 125 (.bin .sub (.t 124) (ki 3)),mt 126 0,mt 127 4,oz 128 (.bin .sub (.t 127) (ki 4)),mt 129 14,oz 130 (.bin .add (.t 129) (.k (.i .u32 1))),oz 131 (.ixs (.k (.s Fx)) (.t 130)),mt 132 14,oz 133 (.ixs (.k (.s Fx)) (.t 132)),oz 134 (.ias 1 (.t 123) (.t 125)),on (.st 1 (.t 134) (.t 131)),oz 135 (.ias 1 (.t 126) (.t 128)),on (.st 1 (.t 135) (.t 133))] [some (0,0),some (0,0),some (0,0),some (0,1),some (0,1),some (0,1),some (0,0),some (0,0),some (0,0),some (0,1),some (0,1),some (0,0),none,some (1,1),none])
  (rg false [mt 136 4,oz 137 (.bin .sub (.t 136) (ki 4)),mt 4 137])))))) .skip)) (.seq (sf [mt 138 4,oz 139 (.bin .geq (.t 138) (ki 2))] (.cond (.t 139) (sf [mt 140 12,oz 141 (.bin .rem (.t 140) (.k (.i .u32 100))),oz 142 (.bin .mul (.t 141) (.k (.i .u32 2))),mt 16 142] (sf [mt 143 12,oz 144 (.bin .quo (.t 143) (.k (.i .u32 100))),mt 12 144] (.seq (.regd [mt 145 0,mt 146 4,oz 147 (.bin .sub (.t 146) (ki 1)),mt 148 0,mt 149 4,oz 150 (.bin .sub (.t 149) (ki 2)),mt 151 16,oz 152 (.bin .add (.t 151) (.k (.i .u32 1))),oz 153 (.ixs (.k (.s Fx)) (.t 152)),mt 154 16,oz 155 (.ixs (.k (.s Fx)) (.t 154)),oz 156 (.ias 1 (.t 145) (.t 147)),on (.st 1 (.t 156) (.t 153)),oz 157 (.ias 1 (.t 148) (.t 150)),on (.st 1 (.t 157) (.t 155))] [some (0,0),some (0,0),some (0,0),some (0,1),some (0,1),some (0,1),some (0,0),some (0,0),some (0,0),some (0,1),some (0,1),some (0,0),none,some (1,1),none]) (rg false [mt 158 4,oz 159 (.bin .sub (.t 158) (ki 2)),mt 4 159])))) .skip)) (sf [mt 160 4,oz 161 (.bin .gtr (.t 160) (ki 0))] (.cond (.t 161) (rg false [mt 162 0,mt 163 12,oz 164 (.bin .add (.k (.i .u32 48)) (.t 163)),oz 165 (.cvi .u8 (.t 164)),oz 166 (.ias 1 (.t 162) (ki 0)),on (.st 1 (.t 166) (.t 165))]) .skip)))))))⟩
noncomputable def R4:AC:=(.seq (sf [mt 14 4,mt 15 0,oz 16 (.lens (.t 15)),oz 17 (.bin .lss (.t 14) (.t 16))] (.cond (.t 17) .skip (.exit 0))) (.seq (.blk 1 (sf [mt 20 0,mt 21 4,oz 22 (.ixs (.t 20) (.t 21)),oz 23 (.call FK [(.t 22),(.k (.b true))]),mt 5 23] (.seq (sf [mt 24 5,oz 25 (.bin .lss (.t 24) (ki 0))] (.cond (.t 25) (sf [oz 2 (.mv (ki (-1)))] .ret) .skip)) (rg false [mt 26 3,oz 27 (.bin .mul (ki 16) (.t 26)),mt 28 5,oz 29 (.bin .add (.t 27) (.t 28)),mt 3 29])))) (rg false [mt 18 4,oz 19 (.bin .add (.t 18) (ki 1)),mt 4 19])))
noncomputable def I7:D9:=⟨false,1,31,[.tmp 2],(sf [oz 2 (.mv (ki 0))] (.seq (sf [mt 6 0,oz 7 (.lens (.t 6)),oz 8 (.bin .lss (.t 7) (ki 1)),mt 9 8,⟨some 10,some (9,false), .mv (.t 0)⟩,⟨some 11,some (9,false), .lens (.t 10)⟩,⟨some 12,some (9,false), .bin .gtr (.t 11) (ki 4)⟩,oz 13 (.pick (.t 9) (.k (.b true)) (.t 12))] (.cond (.t 13) (sf [oz 2 (.mv (ki (-1)))] .ret) .skip)) (sf [oz 3 (.mv (ki 0))] (.seq (sf [oz 4 (.mv (ki 0))] (.blk 0 (.loop [0,3,4] R4))) (sf [mt 30 3,mt 2 30] .ret)))))⟩
noncomputable def S9:AC:=(sf [oz 13 (.bin .lss (.t 12) (.t 11))] (.seq (.cond (.t 13) .skip (.exit 0)) (.seq (.blk 1 (sf [oz 14 (.ias 1 (.t 10) (.t 12)),oz 15 (.ld false 1 (.t 14)),mt 6 15] (rg false [mt 16 4,oz 17 (.bin .shl (.t 16) (.k (.i .u64 8))),mt 18 6,oz 19 (.cvi .u64 (.t 18)),oz 20 (.bin .or (.t 17) (.t 19)),mt 4 20]))) (rg false [oz 21 (.bin .add (.t 12) (ki 1)),mt 12 21]))))
noncomputable def JA:D9:=⟨false,1,23,[.tmp 2, .tmp 3],(sf [oz 2 (.mv (.k (.i .u64 0))),oz 3 (.mv (ki 0))] (.seq (sf [mt 7 0,oz 8 (.call F9 [(.t 7)]),oz 9 (.un .not (.t 8))] (.cond (.t 9) (sf [oz 2 (.mv (.k (.i .u64 0))),oz 3 (.mv (ki 1))] .ret) .skip)) (sf [oz 4 (.mv (.k (.i .u64 0)))] (.seq (sf [mt 10 0,oz 11 (.len (.t 10)),oz 12 (.mv (ki 0))] (.blk 0 (.loop [4,10,11,12] S9))) (sf [mt 22 4,mt 2 22,oz 3 (.mv (ki 0))] .ret)))))⟩
noncomputable def TD:AC:=(.blk 1 (sf [mt 4 0,oz 5 (.bin .and (.t 4) (.k (.i .u16 15))),oz 6 (.ixs (.k (.s [48,49,50,51,52,53,54,55,56,57,97,98,99,100,101,102])) (.t 5)),oz 7 (.cvc (.t 6)),mt 8 3,oz 9 (.bin .add (.t 7) (.t 8)),mt 3 9] (sf [mt 10 0,oz 11 (.bin .shr (.t 10) (.k (.i .u64 4))),mt 0 11] (sf [mt 12 0,oz 13 (.bin .eql (.t 12) (.k (.i .u16 0)))] (.cond (.t 13) (sf [mt 14 3,mt 2 14] .ret) .skip)))))
noncomputable def K2:D9:=⟨false,1,15,[.tmp 2],(sf [oz 2 (.mv (.k (.s [])))] (sf [oz 3 (.mv (.k (.s [])))] (.blk 0 (.loop [0,3] TD))))⟩
noncomputable def CY:D9:=⟨false,2,18,[.tmp 4],(sf [oz 4 (.mv (.k (.b false)))] (sf [mt 5 0,oz 6 (.lens (.t 5)),mt 7 1,oz 8 (.lens (.t 7)),oz 9 (.bin .geq (.t 6) (.t 8)),mt 10 9,⟨some 11,some (10,true), .mv (.t 0)⟩,⟨some 12,some (10,true), .mv (.t 1)⟩,⟨some 13,some (10,true), .lens (.t 12)⟩,⟨some 14,some (10,true), .sls (.t 11) none (some (.t 13))⟩,⟨some 15,some (10,true), .mv (.t 1)⟩,⟨some 16,some (10,true), .bin .eql (.t 14) (.t 15)⟩,oz 17 (.pick (.t 10) (.t 16) (.k (.b false))),mt 4 17] .ret))⟩
noncomputable def Gf:D9:=⟨false,2,8,[.tmp 4],(sf [oz 4 (.mv (.k (.b false)))] (sf [mt 5 0,mt 6 1,oz 7 (.call B2 [(.t 5),(.t 6)]),mt 4 7] .ret))⟩
noncomputable def Hs:D9:=⟨true,2,50,[.tmp 4],(sf [oz 4 (.mv (.k (.b false)))] (.seq (sf [mt 10 1,oz 11 (.call DE [(.t 10)]),mt 9 11,oz 12 (.ext (.t 9) 0),oz 13 (.ext (.t 9) 1),mt 5 12,mt 6 13] (sf [mt 14 6,oz 15 (.bin .eql (.t 14) (ki 0))] (.cond (.t 15) (sf [mt 16 0,mt 17 5,oz 18 (.call C4 [(.t 16),(.t 17)]),mt 4 18] .ret) .skip))) (sf [mt 20 1,oz 21 (.call FX [(.t 20)]),mt 19 21,oz 22 (.ext (.t 19) 0),oz 23 (.ext (.t 19) 1),oz 7 (.alloc 156 (T.arr 4 T.u8).zc),on (.st 4 (.t 7) (.t 22)),mt 8 23] (sf [mt 24 8,oz 25 (.bin .eql (.t 24) (ki 0)),mt 26 25,⟨some 27,some (26,true), .mv (.t 0)⟩,⟨some 28,some (26,true), .iaa 4 1 (.t 7) (ki 0)⟩,⟨some 29,some (26,true), .ld false 1 (.t 28)⟩,⟨some 30,some (26,true), .cvi .u16 (.t 29)⟩,⟨some 31,some (26,true), .bin .shl (.t 30) (.k (.i .u64 8))⟩,⟨some 32,some (26,true), .iaa 4 1 (.t 7) (ki 1)⟩,⟨some 33,some (26,true), .ld false 1 (.t 32)⟩,⟨some 34,some (26,true), .cvi .u16 (.t 33)⟩,⟨some 35,some (26,true), .bin .or (.t 31) (.t 34)⟩,⟨some 36,some (26,true), .call C4 [(.t 27),(.t 35)]⟩,oz 37 (.pick (.t 26) (.t 36) (.k (.b false))),mt 38 37,⟨some 39,some (38,true), .mv (.t 0)⟩,⟨some 40,some (38,true), .iaa 4 1 (.t 7) (ki 2)⟩,⟨some 41,some (38,true), .ld false 1 (.t 40)⟩,⟨some 42,some (38,true), .cvi .u16 (.t 41)⟩,⟨some 43,some (38,true), .bin .shl (.t 42) (.k (.i .u64 8))⟩,⟨some 44,some (38,true), .iaa 4 1 (.t 7) (ki 3)⟩,⟨some 45,some (38,true), .ld false 1 (.t 44)⟩,⟨some 46,some (38,true), .cvi .u16 (.t 45)⟩,⟨some 47,some (38,true), .bin .or (.t 43) (.t 46)⟩,⟨some 48,some (38,true), .call C4 [(.t 39),(.t 47)]⟩,oz 49 (.pick (.t 38) (.t 48) (.k (.b false))),mt 4 49]
 .ret))))⟩
noncomputable def PI:AC:=(sf [oz 19 (.bin .lss (.t 18) (.t 17))] (.seq (.cond (.t 19) .skip (.exit 0)) (.seq (.blk 1 (sf [mt 20 18,mt 5 20] (sf [mt 22 0,mt 23 5,oz 24 (.ixs (.t 22) (.t 23)),oz 25 (.call Gq [(.t 24)]),oz 26 (.call E6 [(.t 25)]),mt 21 26,oz 27 (.ext (.t 21) 0),oz 28 (.ext (.t 21) 1),mt 6 27,mt 7 28] (.seq (sf [mt 29 7,oz 30 (.un .not (.t 29))] (.cond (.t 30) (sf [oz 2 (.mv (.k (.i .u16 0))),oz 3 (.mv (ki 5))] .ret) .skip)) (rg false [mt 31 4,oz 32 (.bin .shl (.t 31) (.k (.i .u64 4))),mt 33 6,oz 34 (.bin .or (.t 32) (.t 33)),mt 4 34]))))) (rg false [oz 35 (.bin .add (.t 18) (ki 1)),mt 18 35]))))
noncomputable def H4:D9:=⟨false,1,37,[.tmp 2, .tmp 3],(sf [oz 2 (.mv (.k (.i .u16 0))),oz 3 (.mv (ki 0))] (.seq (sf [mt 8 0,oz 9 (.lens (.t 8)),oz 10 (.bin .lss (.t 9) (ki 1)),mt 11 10,⟨some 12,some (11,false), .mv (.t 0)⟩,⟨some 13,some (11,false), .lens (.t 12)⟩,⟨some 14,some (11,false), .bin .gtr (.t 13) (ki 4)⟩,oz 15 (.pick (.t 11) (.k (.b true)) (.t 14))] (.cond (.t 15) (sf [oz 2 (.mv (.k (.i .u16 0))),oz 3 (.mv (ki 5))] .ret) .skip)) (sf [oz 4 (.mv (.k (.i .u16 0)))] (.seq (sf [mt 16 0,oz 17 (.lens (.t 16)),oz 18 (.mv (ki 0))] (.blk 0 (.loop [0,4,17,18] PI))) (sf [mt 36 4,mt 2 36,oz 3 (.mv (ki 0))] .ret)))))⟩
noncomputable def HO:D9:=⟨true,2,26,[.tmp 4],(sf [oz 4 (.mv (.k (.b false)))] (.seq (sf [mt 5 0,oz 6 (.nilc (.t 5)),oz 7 (.fa 8 (.t 6)),oz 8 (.ld false 1 (.t 7)),oz 9 (.bin .eql (.t 8) (ki 8))] (.cond (.t 9) (sf [oz 4 (.mv (.k (.b false)))] .ret) .skip)) (.seq (.regd [mt 10 0,mt 11 0,oz 12 (.nilc (.t 11)),oz 13 (.fa 8 (.t 12)),oz 14 (.ld false 1 (.t 13)),mt 15 1,oz 16 (.nilc (.t 10)),oz 17 (.fa 0 (.t 16)),oz 18 (.iaa 8 1 (.t 17) (.t 14)),on (.st 1 (.t 18) (.t 15))] [some (0,0),some (0,0),some (0,0),some (0,0),some (0,0),some (0,0),some (0,0),some (0,0),some (0,0),none]) (sf [mt 19 0,oz 20 (.nilc (.t 19)),oz 21 (.fa 8 (.t 20)),oz 22 (.ld false 1 (.t 21)),oz 23 (.bin .add (.t 22) (ki 1)),oz 24 (.nilc (.t 19)),oz 25 (.fa 8 (.t 24)),on (.st 1 (.t 25) (.t 23))] (sf [oz 4 (.mv (.k (.b true)))] .ret)))))⟩
noncomputable def D7:D9:=⟨false,1,6,[.tmp 2],(sf [oz 2 (.mv (ki 0))] (sf [mt 3 0,oz 4 (.bin .mul (.t 3) (ki 78913)),oz 5 (.bin .shr (.t 4) (.k (.i .u64 18))),mt 2 5] .ret))⟩
noncomputable def Hy:D9:=⟨false,1,25,[.tmp 2],(sf [oz 2 (.mv (ki 0))] (.seq (sf [mt 3 0,oz 4 (.bin .geq (.t 3) (.k (.i .u64 4294967296)))] (.cond (.t 4) (sf [mt 5 0,oz 6 (.bin .shr (.t 5) (.k (.i .u64 32))),mt 0 6] (rg false [oz 2 (.mv (ki 32))])) .skip)) (.seq (sf [mt 7 0,oz 8 (.bin .geq (.t 7) (.k (.i .u64 65536)))] (.cond (.t 8) (sf [mt 9 0,oz 10 (.bin .shr (.t 9) (.k (.i .u64 16))),mt 0 10] (rg false [mt 11 2,oz 12 (.bin .add (.t 11) (ki 16)),mt 2 12])) .skip)) (.seq (sf [mt 13 0,oz 14 (.bin .geq (.t 13) (.k (.i .u64 256)))] (.cond (.t 14) (sf [mt 15 0,oz 16 (.bin .shr (.t 15) (.k (.i .u64 8))),mt 0 16] (rg false [mt 17 2,oz 18 (.bin .add (.t 17) (ki 8)),mt 2 18])) .skip)) (sf [mt 19 2,mt 20 0,oz 21 (.cvi .u8 (.t 20)),oz 22 (.ixs (.k (.s str_1)) (.t 21)),oz 23 (.cvi .i64 (.t 22)),oz 24 (.bin .add (.t 19) (.t 23)),mt 2 24] .ret)))))⟩
noncomputable def D8:D9:=⟨false,1,4,[.tmp 2],(sf [oz 2 (.mv (ki 0))] (.seq (sf [mt 3 0] (.cond (.t 3) (sf [oz 2 (.mv (ki 1))] .ret) .skip)) (sf [oz 2 (.mv (ki 0))] .ret)))⟩
noncomputable def J9:D9:=⟨false,1,11,[.tmp 2],(sf [oz 2 (.mv (.k (.b false)))] (sf [mt 3 0,oz 4 (.len (.t 3)),oz 5 (.bin .geq (.t 4) (ki 1)),mt 6 5,⟨some 7,some (6,true), .mv (.t 0)⟩,⟨some 8,some (6,true), .len (.t 7)⟩,⟨some 9,some (6,true), .bin .leq (.t 8) (ki 8)⟩,oz 10 (.pick (.t 6) (.t 9) (.k (.b false))),mt 2 10] .ret))⟩
noncomputable def K1:D9:=⟨false,1,12,[.tmp 2],(sf [oz 2 (.mv (.k (.i .u8 0)))] (.seq (sf [mt 3 0,oz 4 (.bin .geq (.t 3) (.k (.i .u8 65))),mt 5 4,⟨some 6,some (5,true), .mv (.t 0)⟩,⟨some 7,some (5,true), .bin .leq (.t 6) (.k (.i .u8 70))⟩,oz 8 (.pick (.t 5) (.t 7) (.k (.b false)))] (.cond (.t 8) (sf [mt 9 0,oz 10 (.bin .or (.t 9) (.k (.i .u8 32))),mt 2 10] .ret) .skip)) (sf [mt 11 0,mt 2 11] .ret)))⟩
def lM:(Ar UInt64 20):=⟨[1,10,100,1000,10000,100000,1000000,10000000,100000000,1000000000,10000000000,100000000000,1000000000000,10000000000000,100000000000000,1000000000000000,10000000000000000,100000000000000000,1000000000000000000,10000000000000000000],rfl⟩
def gl_2:List AV:=lM.l.map (fun(x:UInt64)=>AV.i .u64 x.toNat)
theorem gm_2:Bx gl_2=0:=tab_m (fun(x:UInt64)=>AV.i .u64 x.toNat) (fun _=>rfl) _
theorem gr_2: ∀P H,(T.arr 20 T.u64).R P H gl_2 lM:=fun _ _=>tab_R lM
def gl_3:List AV:=[.ifc 0 .junk]
theorem gm_3:Bx gl_3=0:=rfl
def gl_4:List AV:=[.ifc 0 .junk]
theorem gm_4:Bx gl_4=0:=rfl
noncomputable def gll:List (Nat×List AV):=[(2,gl_2),(3,gl_3),(4,gl_4)]
noncomputable def fnl:List (Nat×D9):=[(Ey,Hz),(GI,MF),(Hi,Lz),(Ft,Kw),(Gn,Kx),(IX,Ox),(Ib,M5),(Hj,L0),(DJ,Li),(Ek,J5),(Fu,Kz),(Hh,Ly),(IY,O0),(Eb,MA),(IW,Ow),(Gt,K4),(E1,Ov),(IV,R3),(HZ,PH),(Ju,PG),(Dw,Ga),(B5,Es),(Cz,Fv),(EV,ME),(GH,MB),(Ia,M4),(F8,J6),(Ic,M6),(G2,Oz),(Ee,Ih),(AZ,J4),(EL,J7),(Bc,Mf),(F7,J3),(Bb,Me),(Cv,Lx),(Fj,I9),(C8,Ou),(EF,Ii),(C7,Ot),(BS,Kv),(IZ,O1),(Cj,Nd),(Fi,I8),(Ci,Nc),(Dk,Ku),(El,JB),(D3,Nb),(Em,JC),(GF,M3),(D2,Na),(BH,EA),(Dl,Ge),(FW,L1),(LH,S6),(Ka,Ql),(Id,M7),(Hk,L2),(Fc,L6),(Ei,GP),(Cc,EB),(EM,J8),(Hm,L5),(GJ,MH),(Ez,H3),(Hn,L7),(Kc,Qn),(Dy,FP),(EG,Ij),(BL,CX),(FK,MC),(Ie,M8),(GG,M9),(LG,S5),(GK,MI),(Fg,I6),(E6,K0),(Ig,MD),(Hl,L4),(DK,Gg),(Gp,Ky),(Gs,K3),(Ja,O2),(FX,L3),(Cd,Dx),(Kb,Qm),(G1,Oy),(FB,JD),(Fk,IB),(FL,MG),(BM,CZ),(C0,Eg),(Ed,Ht),(D4,Gv),(CE,E2),(Cm,D6),(Ct,Et),(Fh,I7),(FA,JA),(Gr,K2),(B2,CY),(Dm,Gf),(Ec,Hs),(DE,H4),(C4,HO),(Cn,D7),(Ew,Hy),(Co,D8),(F9,J9),(Gq,K1)]
def prl:List (Nat×(List AV→Ay→Option (AV×Option Ay))):=[(C9,Wj),(FY,OF),(F4,(YV 107 5)),(FJ,Wi),(CC,RU)]
def itl:List Nat:=[1]
noncomputable def tb:Dh:=⟨fun n=>look n fnl,fun n=>look n gll,fun n=>look n prl,itl⟩
theorem Sr:tb.prim Ey=none∧tb.fns Ey=some Hz:=⟨rfl,rfl⟩
theorem hE:tb.prim GI=none∧tb.fns GI=some MF:=⟨rfl,rfl⟩
theorem bI:tb.prim Hi=none∧tb.fns Hi=some Lz:=⟨rfl,rfl⟩
theorem Yt:tb.prim Ft=none∧tb.fns Ft=some Kw:=⟨rfl,rfl⟩
theorem Yu:tb.prim Gn=none∧tb.fns Gn=some Kx:=⟨rfl,rfl⟩
theorem lT:tb.prim IX=none∧tb.fns IX=some Ox:=⟨rfl,rfl⟩
theorem gN:tb.prim Ib=none∧tb.fns Ib=some M5:=⟨rfl,rfl⟩
theorem bJ:tb.prim Hj=none∧tb.fns Hj=some L0:=⟨rfl,rfl⟩
theorem I5:tb.prim DJ=none∧tb.fns DJ=some Li:=⟨rfl,rfl⟩
theorem WQ:tb.prim Ek=none∧tb.fns Ek=some J5:=⟨rfl,rfl⟩
theorem Yw:tb.prim Fu=none∧tb.fns Fu=some Kz:=⟨rfl,rfl⟩
theorem bH:tb.prim Hh=none∧tb.fns Hh=some Ly:=⟨rfl,rfl⟩
theorem lW:tb.prim IY=none∧tb.fns IY=some O0:=⟨rfl,rfl⟩
theorem gV:tb.prim Eb=none∧tb.fns Eb=some MA:=⟨rfl,rfl⟩
theorem lS:tb.prim IW=none∧tb.fns IW=some Ow:=⟨rfl,rfl⟩
theorem Y1:tb.prim Gt=none∧tb.fns Gt=some K4:=⟨rfl,rfl⟩
theorem BP:tb.prim E1=none∧tb.fns E1=some Ov:=⟨rfl,rfl⟩
theorem HK:tb.prim IV=none∧tb.fns IV=some R3:=⟨rfl,rfl⟩
theorem G3:tb.prim HZ=none∧tb.fns HZ=some PH:=⟨rfl,rfl⟩
theorem M0:tb.prim Ju=none∧tb.fns Ju=some PG:=⟨rfl,rfl⟩
theorem MU:tb.prim Dw=none∧tb.fns Dw=some Ga:=⟨rfl,rfl⟩
theorem Er:tb.prim B5=none∧tb.fns B5=some Es:=⟨rfl,rfl⟩
theorem HN:tb.prim Cz=none∧tb.fns Cz=some Fv:=⟨rfl,rfl⟩
theorem gZ:tb.prim EV=none∧tb.fns EV=some ME:=⟨rfl,rfl⟩
theorem gW:tb.prim GH=none∧tb.fns GH=some MB:=⟨rfl,rfl⟩
theorem gL:tb.prim Ia=none∧tb.fns Ia=some M4:=⟨rfl,rfl⟩
theorem WR:tb.prim F8=none∧tb.fns F8=some J6:=⟨rfl,rfl⟩
theorem gO:tb.prim Ic=none∧tb.fns Ic=some M6:=⟨rfl,rfl⟩
theorem lV:tb.prim G2=none∧tb.fns G2=some Oz:=⟨rfl,rfl⟩
theorem T2:tb.prim Ee=none∧tb.fns Ee=some Ih:=⟨rfl,rfl⟩
theorem WP:tb.prim AZ=none∧tb.fns AZ=some J4:=⟨rfl,rfl⟩
theorem WS:tb.prim EL=none∧tb.fns EL=some J7:=⟨rfl,rfl⟩
theorem HM:tb.prim Bc=none∧tb.fns Bc=some Mf:=⟨rfl,rfl⟩
theorem WO:tb.prim F7=none∧tb.fns F7=some J3:=⟨rfl,rfl⟩
theorem HL:tb.prim Bb=none∧tb.fns Bb=some Me:=⟨rfl,rfl⟩
theorem bG:tb.prim Cv=none∧tb.fns Cv=some Lx:=⟨rfl,rfl⟩
theorem UV:tb.prim Fj=none∧tb.fns Fj=some I9:=⟨rfl,rfl⟩
theorem Sp:tb.prim C8=none∧tb.fns C8=some Ou:=⟨rfl,rfl⟩
theorem T3:tb.prim EF=none∧tb.fns EF=some Ii:=⟨rfl,rfl⟩
theorem So:tb.prim C7=none∧tb.fns C7=some Ot:=⟨rfl,rfl⟩
theorem Ys:tb.prim BS=none∧tb.fns BS=some Kv:=⟨rfl,rfl⟩
theorem lX:tb.prim IZ=none∧tb.fns IZ=some O1:=⟨rfl,rfl⟩
theorem QT:tb.prim Cj=none∧tb.fns Cj=some Nd:=⟨rfl,rfl⟩
theorem UU:tb.prim Fi=none∧tb.fns Fi=some I8:=⟨rfl,rfl⟩
theorem QS:tb.prim Ci=none∧tb.fns Ci=some Nc:=⟨rfl,rfl⟩
theorem Yr:tb.prim Dk=none∧tb.fns Dk=some Ku:=⟨rfl,rfl⟩
theorem WW:tb.prim El=none∧tb.fns El=some JB:=⟨rfl,rfl⟩
theorem Yq:tb.prim D3=none∧tb.fns D3=some Nb:=⟨rfl,rfl⟩
theorem WX:tb.prim Em=none∧tb.fns Em=some JC:=⟨rfl,rfl⟩
theorem gK:tb.prim GF=none∧tb.fns GF=some M3:=⟨rfl,rfl⟩
theorem Yp:tb.prim D2=none∧tb.fns D2=some Na:=⟨rfl,rfl⟩
theorem Cp:tb.prim BH=none∧tb.fns BH=some EA:=⟨rfl,rfl⟩
theorem Q4:tb.prim Dl=none∧tb.fns Dl=some Ge:=⟨rfl,rfl⟩
theorem bK:tb.prim FW=none∧tb.fns FW=some L1:=⟨rfl,rfl⟩
theorem wP:tb.prim LH=none∧tb.fns LH=some S6:=⟨rfl,rfl⟩
theorem rU:tb.prim Ka=none∧tb.fns Ka=some Ql:=⟨rfl,rfl⟩
theorem gP:tb.prim Id=none∧tb.fns Id=some M7:=⟨rfl,rfl⟩
theorem bL:tb.prim Hk=none∧tb.fns Hk=some L2:=⟨rfl,rfl⟩
theorem bP:tb.prim Fc=none∧tb.fns Fc=some L6:=⟨rfl,rfl⟩
theorem Rw:tb.prim Ei=none∧tb.fns Ei=some GP:=⟨rfl,rfl⟩
theorem G4:tb.prim Cc=none∧tb.fns Cc=some EB:=⟨rfl,rfl⟩
theorem WT:tb.prim EM=none∧tb.fns EM=some J8:=⟨rfl,rfl⟩
theorem bO:tb.prim Hm=none∧tb.fns Hm=some L5:=⟨rfl,rfl⟩
theorem hQ:tb.prim GJ=none∧tb.fns GJ=some MH:=⟨rfl,rfl⟩
theorem Su:tb.prim Ez=none∧tb.fns Ez=some H3:=⟨rfl,rfl⟩
theorem bQ:tb.prim Hn=none∧tb.fns Hn=some L7:=⟨rfl,rfl⟩
theorem rW:tb.prim Kc=none∧tb.fns Kc=some Qn:=⟨rfl,rfl⟩
theorem PA:tb.prim Dy=none∧tb.fns Dy=some FP:=⟨rfl,rfl⟩
theorem T4:tb.prim EG=none∧tb.fns EG=some Ij:=⟨rfl,rfl⟩
theorem Jv:tb.prim BL=none∧tb.fns BL=some CX:=⟨rfl,rfl⟩
theorem gX:tb.prim FK=none∧tb.fns FK=some MC:=⟨rfl,rfl⟩
theorem gQ:tb.prim Ie=none∧tb.fns Ie=some M8:=⟨rfl,rfl⟩
theorem gU:tb.prim GG=none∧tb.fns GG=some M9:=⟨rfl,rfl⟩
theorem wO:tb.prim LG=none∧tb.fns LG=some S5:=⟨rfl,rfl⟩
theorem hU:tb.prim GK=none∧tb.fns GK=some MI:=⟨rfl,rfl⟩
theorem US:tb.prim Fg=none∧tb.fns Fg=some I6:=⟨rfl,rfl⟩
theorem Yx:tb.prim E6=none∧tb.fns E6=some K0:=⟨rfl,rfl⟩
theorem gY:tb.prim Ig=none∧tb.fns Ig=some MD:=⟨rfl,rfl⟩
theorem bN:tb.prim Hl=none∧tb.fns Hl=some L4:=⟨rfl,rfl⟩
theorem Q6:tb.prim DK=none∧tb.fns DK=some Gg:=⟨rfl,rfl⟩
theorem Yv:tb.prim Gp=none∧tb.fns Gp=some Ky:=⟨rfl,rfl⟩
theorem Y0:tb.prim Gs=none∧tb.fns Gs=some K3:=⟨rfl,rfl⟩
theorem lY:tb.prim Ja=none∧tb.fns Ja=some O2:=⟨rfl,rfl⟩
theorem bM:tb.prim FX=none∧tb.fns FX=some L3:=⟨rfl,rfl⟩
theorem KO:tb.prim Cd=none∧tb.fns Cd=some Dx:=⟨rfl,rfl⟩
theorem rV:tb.prim Kb=none∧tb.fns Kb=some Qm:=⟨rfl,rfl⟩
theorem lU:tb.prim G1=none∧tb.fns G1=some Oy:=⟨rfl,rfl⟩
theorem WY:tb.prim FB=none∧tb.fns FB=some JD:=⟨rfl,rfl⟩
theorem UW:tb.prim Fk=none∧tb.fns Fk=some IB:=⟨rfl,rfl⟩
theorem hJ:tb.prim FL=none∧tb.fns FL=some MG:=⟨rfl,rfl⟩
theorem Jx:tb.prim BM=none∧tb.fns BM=some CZ:=⟨rfl,rfl⟩
theorem Mb:tb.prim C0=none∧tb.fns C0=some Eg:=⟨rfl,rfl⟩
theorem OV:tb.prim Ed=none∧tb.fns Ed=some Ht:=⟨rfl,rfl⟩
theorem N3:tb.prim D4=none∧tb.fns D4=some Gv:=⟨rfl,rfl⟩
theorem MV:tb.prim CE=none∧tb.fns CE=some E2:=⟨rfl,rfl⟩
theorem Ld:tb.prim Cm=none∧tb.fns Cm=some D6:=⟨rfl,rfl⟩
theorem JI:tb.prim Ct=none∧tb.fns Ct=some Et:=⟨rfl,rfl⟩
theorem UT:tb.prim Fh=none∧tb.fns Fh=some I7:=⟨rfl,rfl⟩
theorem WV:tb.prim FA=none∧tb.fns FA=some JA:=⟨rfl,rfl⟩
theorem Yz:tb.prim Gr=none∧tb.fns Gr=some K2:=⟨rfl,rfl⟩
theorem Jw:tb.prim B2=none∧tb.fns B2=some CY:=⟨rfl,rfl⟩
theorem Q5:tb.prim Dm=none∧tb.fns Dm=some Gf:=⟨rfl,rfl⟩
theorem OU:tb.prim Ec=none∧tb.fns Ec=some Hs:=⟨rfl,rfl⟩
theorem Sv:tb.prim DE=none∧tb.fns DE=some H4:=⟨rfl,rfl⟩
theorem E7:tb.prim C4=none∧tb.fns C4=some HO:=⟨rfl,rfl⟩
theorem Le:tb.prim Cn=none∧tb.fns Cn=some D7:=⟨rfl,rfl⟩
theorem Sq:tb.prim Ew=none∧tb.fns Ew=some Hy:=⟨rfl,rfl⟩
theorem Lf:tb.prim Co=none∧tb.fns Co=some D8:=⟨rfl,rfl⟩
theorem WU:tb.prim F9=none∧tb.fns F9=some J9:=⟨rfl,rfl⟩
theorem Yy:tb.prim Gq=none∧tb.fns Gq=some K1:=⟨rfl,rfl⟩
end Go.Proofs.YtobejhpigbllpaaGreatDoor.Am
end
section
set_option linter.unusedVariables false
namespace Go.Proofs.YtobejhpigbllpaaGreatDoor.Am
open Go.Proofs Go.RowKit
set_option maxHeartbeats 2000000 in
set_option maxRecDepth 1000000 in
theorem wE:jC Tryz.prog 106 5:=by
 intro b n w h1 hb hf hn
 obtain⟨cs,hrun,hle,hmax⟩:=Lib.run_makeNoZero (P:=Tryz.prog) w.drew #[3] 22 5 (by kernel_rfl) n hn
 refine⟨cs,hle,?_⟩
 have hw:IntKind.i64.wrap (IntKind.i64.wrap 0+(n:Int))=n:=by
  rw[IntKind.wrap_i64,IntKind.wrap_i64]
  omega
 have hcall:(callFunc 143 #[.int .i64 (IntKind.i64.wrap (IntKind.i64.wrap 0+(n:Int)))]).run Tryz.prog w.drew= .ok (.value (.slice (some ⟨w.drew.heap.size,0,none⟩) n cs.size)) (w.drew.drew.drew.alloc (.cells cs 5)):=by
  rw[hw,run_callFunc_extern Tryz.func143 (by kernel_rfl) (by kernel_rfl) (by kernel_rfl) (e:=Extern.BytealgMakeNoZero.makeNoZero #[3] #[22]) (by kernel_rfl),hrun]
  rfl
 have c1:w.drew.cell? ⟨b,1,none⟩=some (.slice none 0 0):=h1
 have c2:(w.alloc (.cells cs 5)).cell? ⟨b,1,none⟩=some (.slice none 0 0):=by
  have:(w.alloc (.cells cs 5)).heap[b]? =w.heap[b]? :=(Lib.alloc_old w _ b hb)
  simp only[World.cell?,this];exact h1
 have f2:(w.alloc (.cells cs 5)).frozen? ⟨b,1,none⟩=false:=by
  have:(w.alloc (.cells cs 5)).heap[b]? =w.heap[b]? :=(Lib.alloc_old w _ b hb)
  simp only[World.frozen?,this];exact hf
 have hcopy: ∀W:World,(Builtin.copy_ #[22,22] 3 #[.slice (some ⟨w.heap.size,0,none⟩) 0 cs.size, .slice none 0 0]).run Tryz.prog W= .ok (goInt 0) W:=
  fun W=>run_copy_none W 22 22 3 5 _ _ 0 cs.size 0 0 (by kernel_rfl) (by kernel_rfl) rfl
 clear hw
 go_enter Tryz.func106,Tryz.ntmps106
 go_wp2
 go_region
 all_goals (go_wp2;go_end0;exact⟨rfl,rfl⟩)
end Go.Proofs.YtobejhpigbllpaaGreatDoor.Am
end
section
set_option maxRecDepth 100000
set_option maxHeartbeats 2000000
namespace Go.Proofs.YtobejhpigbllpaaGreatDoor.Am
open Go.Shelf Go.Proofs
def pU:Ren:=⟨fun|14=>141|16=>173|17=>174|19=>216|20=>217|21=>218|22=>219|23=>220|24=>221|25=>244|26=>245|27=>246|28=>253|29=>254|30=>212|31=>213|32=>214|33=>215|34=>239|35=>240|36=>241|37=>242|38=>243|39=>251|40=>252|n=>n,fun|0=>0|2=>2|3=>3|4=>4|5=>5|9=>9|20=>20|21=>21|22=>81|24=>110|25=>180|34=>245|36=>175|37=>22|39=>247|44=>267|47=>152|48=>273|50=>275|52=>240|55=>243|59=>262|60=>51|61=>263|65=>28|66=>280|67=>113|n=>n,fun|0=>3|1=>4|2=>2|3=>7|4=>8|n=>n⟩
theorem Ri:LaysPu.n14 Tryz.prog pU where
 mixed:=by kernel_rfl
 f14:=Tryz.func141.trans (congrArg some (by kernel_rfl))
 f16:=Tryz.func173.trans (congrArg some (by kernel_rfl))
 f17:=Tryz.func174.trans (congrArg some (by kernel_rfl))
 f19:=Tryz.func216.trans (congrArg some (by kernel_rfl))
 f20:=Tryz.func217.trans (congrArg some (by kernel_rfl))
 f21:=Tryz.func218.trans (congrArg some (by kernel_rfl))
 f22:=Tryz.func219.trans (congrArg some (by kernel_rfl))
 f23:=Tryz.func220.trans (congrArg some (by kernel_rfl))
 f24:=Tryz.func221.trans (congrArg some (by kernel_rfl))
 f25:=Tryz.func244.trans (congrArg some (by kernel_rfl))
 f26:=Tryz.func245.trans (congrArg some (by kernel_rfl))
 f27:=Tryz.func246.trans (congrArg some (by kernel_rfl))
 f28:=Tryz.func253.trans (congrArg some (by kernel_rfl))
 f29:=Tryz.func254.trans (congrArg some (by kernel_rfl))
 f30:=Tryz.func212.trans (congrArg some (by kernel_rfl))
 f31:=Tryz.func213.trans (congrArg some (by kernel_rfl))
 f32:=Tryz.func214.trans (congrArg some (by kernel_rfl))
 f33:=Tryz.func215.trans (congrArg some (by kernel_rfl))
 f34:=Tryz.func239.trans (congrArg some (by kernel_rfl))
 f35:=Tryz.func240.trans (congrArg some (by kernel_rfl))
 f36:=Tryz.func241.trans (congrArg some (by kernel_rfl))
 f37:=Tryz.func242.trans (congrArg some (by kernel_rfl))
 f38:=Tryz.func243.trans (congrArg some (by kernel_rfl))
 f39:=Tryz.func251.trans (congrArg some (by kernel_rfl))
 f40:=Tryz.func252.trans (congrArg some (by kernel_rfl))
 t0:=Tryz.underlying0
 a0:=Tryz.isAgg0
 z0:=Tryz.sizeOf0
 v0:=Tryz.zeroValue0
 i0:=by kernel_rfl
 t2:=Tryz.underlying2
 a2:=Tryz.isAgg2
 z2:=Tryz.sizeOf2
 v2:=Tryz.zeroValue2
 i2:=by kernel_rfl
 t3:=Tryz.underlying3
 a3:=Tryz.isAgg3
 z3:=Tryz.sizeOf3
 v3:=Tryz.zeroValue3
 i3:=by kernel_rfl
 t4:=Tryz.underlying4
 a4:=Tryz.isAgg4
 z4:=Tryz.sizeOf4
 v4:=Tryz.zeroValue4
 i4:=by kernel_rfl
 t5:=Tryz.underlying5
 a5:=Tryz.isAgg5
 z5:=Tryz.sizeOf5
 v5:=Tryz.zeroValue5
 i5:=by kernel_rfl
 t9:=Tryz.underlying9
 a9:=Tryz.isAgg9
 z9:=Tryz.sizeOf9
 v9:=Tryz.zeroValue9
 i9:=by kernel_rfl
 t20:=Tryz.underlying20
 a20:=Tryz.isAgg20
 z20:=Tryz.sizeOf20
 v20:=Tryz.zeroValue20
 i20:=by kernel_rfl
 t21:=Tryz.underlying21
 a21:=Tryz.isAgg21
 z21:=Tryz.sizeOf21
 v21:=Tryz.zeroValue21
 i21:=by kernel_rfl
 t22:=Tryz.underlying81
 a22:=Tryz.isAgg81
 z22:=Tryz.sizeOf81
 v22:=Tryz.zeroValue81
 i22:=by kernel_rfl
 t24:=Tryz.underlying110
 a24:=Tryz.isAgg110
 z24:=Tryz.sizeOf110
 v24:=Tryz.zeroValue110
 i24:=by kernel_rfl
 t25:=Tryz.underlying180
 a25:=Tryz.isAgg180
 z25:=Tryz.sizeOf180
 v25:=Tryz.zeroValue180
 i25:=by kernel_rfl
 t34:=Tryz.underlying245
 a34:=Tryz.isAgg245
 z34:=Tryz.sizeOf245
 v34:=Tryz.zeroValue245
 i34:=by kernel_rfl
 c34:=by kernel_rfl
 t36:=Tryz.underlying175
 a36:=Tryz.isAgg175
 z36:=Tryz.sizeOf175
 v36:=Tryz.zeroValue175
 i36:=by kernel_rfl
 t37:=Tryz.underlying22
 a37:=Tryz.isAgg22
 z37:=Tryz.sizeOf22
 v37:=Tryz.zeroValue22
 i37:=by kernel_rfl
 t39:=Tryz.underlying247
 a39:=Tryz.isAgg247
 z39:=Tryz.sizeOf247
 v39:=Tryz.zeroValue247
 i39:=by kernel_rfl
 t44:=Tryz.underlying267
 a44:=Tryz.isAgg267
 z44:=Tryz.sizeOf267
 v44:=Tryz.zeroValue267
 i44:=by kernel_rfl
 t47:=Tryz.underlying152
 a47:=Tryz.isAgg152
 z47:=Tryz.sizeOf152
 v47:=Tryz.zeroValue152
 i47:=by kernel_rfl
 t48:=Tryz.underlying273
 a48:=Tryz.isAgg273
 z48:=Tryz.sizeOf273
 v48:=Tryz.zeroValue273
 i48:=by kernel_rfl
 t50:=Tryz.underlying275
 a50:=Tryz.isAgg275
 z50:=Tryz.sizeOf275
 v50:=Tryz.zeroValue275
 i50:=by kernel_rfl
 t52:=Tryz.underlying240
 a52:=Tryz.isAgg240
 z52:=Tryz.sizeOf240
 v52:=Tryz.zeroValue240
 i52:=by kernel_rfl
 t55:=Tryz.underlying243
 a55:=Tryz.isAgg243
 z55:=Tryz.sizeOf243
 v55:=Tryz.zeroValue243
 i55:=by kernel_rfl
 t59:=Tryz.underlying262
 a59:=Tryz.isAgg262
 z59:=Tryz.sizeOf262
 v59:=Tryz.zeroValue262
 i59:=by kernel_rfl
 t60:=Tryz.underlying51
 a60:=Tryz.isAgg51
 z60:=Tryz.sizeOf51
 v60:=Tryz.zeroValue51
 i60:=by kernel_rfl
 t61:=Tryz.underlying263
 a61:=Tryz.isAgg263
 z61:=Tryz.sizeOf263
 t65:=Tryz.underlying28
 a65:=Tryz.isAgg28
 z65:=Tryz.sizeOf28
 v65:=Tryz.zeroValue28
 i65:=by kernel_rfl
 t66:=Tryz.underlying280
 a66:=Tryz.isAgg280
 z66:=Tryz.sizeOf280
 v66:=Tryz.zeroValue280
 i66:=by kernel_rfl
 t67:=Tryz.underlying113
 a67:=Tryz.isAgg113
 z67:=Tryz.sizeOf113
 v67:=Tryz.zeroValue113
 i67:=by kernel_rfl
 g0:=by kernel_rfl
 m0:=by kernel_rfl
 g1:=by kernel_rfl
 m1:=by kernel_rfl
 g2:=by kernel_rfl
 m2:=by kernel_rfl
 g3:=by kernel_rfl
 m3:=by kernel_rfl
 g4:=by kernel_rfl
 m4:=by kernel_rfl
theorem pu_run:Z5 Tryz.prog 141 3 4:=by
 intro l w eS eR hl c1 t1 c2 t2
 unfold Gi
 cases h:Lib.parseUintB 64 l with
 |ok u=>
  refine(Any.strconv_ParseUint_10_at64_ok Ri ⟨l.toArray⟩ (by show l.toArray.size≤_;simp only[List.size_toArray];omega) u (by simpa using h) w).mono ?_
  rintro e w' ⟨rfl,hw⟩
  refine⟨.nilIface,rfl,rfl,?_⟩
  rcases hw with rfl|rfl
  ·exact RowKit.Below.refl _ _
  ·exact Lib.bytesWorld_below _ _ _
 |range=>
  refine(Any.strconv_ParseUint_10_at64_range Ri ⟨l.toArray⟩ (by show l.toArray.size≤_;simp only[List.size_toArray];omega) (by simpa using h) eR w c2 (.inr t2)).mono ?_
  rintro e w' ⟨k,rfl,_,_,hb⟩
  exact⟨_,rfl,⟨_,_,rfl⟩,hb⟩
 |_=>
  refine(Any.strconv_ParseUint_10_at64_syntax Ri ⟨l.toArray⟩ (by show l.toArray.size≤_;simp only[List.size_toArray];omega) (by simpa using h) eS w c1 (.inr t1)).mono ?_
  rintro e w' ⟨k,rfl,_,_,hb⟩
  exact⟨_,rfl,⟨_,_,rfl⟩,hb⟩
def pV:Ren:=⟨fun|217=>144|219=>187|224=>228|225=>229|266=>175|267=>230|314=>248|n=>n,fun|3=>3|4=>4|5=>5|9=>9|46=>175|51=>51|146=>269|n=>n,fun|1=>1|n=>n⟩
theorem kY:Lays.n219 Tryz.prog pV where
 mixed:=by kernel_rfl
 f217:=Tryz.func144.trans (congrArg some (by kernel_rfl))
 f219:=Tryz.func187.trans (congrArg some (by kernel_rfl))
 f224:=Tryz.func228.trans (congrArg some (by kernel_rfl))
 f225:=Tryz.func229.trans (congrArg some (by kernel_rfl))
 f266:=Tryz.func175.trans (congrArg some (by kernel_rfl))
 f267:=Tryz.func230.trans (congrArg some (by kernel_rfl))
 f314:=Tryz.func248.trans (congrArg some (by kernel_rfl))
 t3:=Tryz.underlying3
 a3:=Tryz.isAgg3
 z3:=Tryz.sizeOf3
 v3:=Tryz.zeroValue3
 t4:=Tryz.underlying4
 a4:=Tryz.isAgg4
 z4:=Tryz.sizeOf4
 v4:=Tryz.zeroValue4
 t5:=Tryz.underlying5
 a5:=Tryz.isAgg5
 z5:=Tryz.sizeOf5
 v5:=Tryz.zeroValue5
 t9:=Tryz.underlying9
 a9:=Tryz.isAgg9
 z9:=Tryz.sizeOf9
 v9:=Tryz.zeroValue9
 t46:=Tryz.underlying175
 a46:=Tryz.isAgg175
 z46:=Tryz.sizeOf175
 v46:=Tryz.zeroValue175
 t51:=Tryz.underlying51
 a51:=Tryz.isAgg51
 z51:=Tryz.sizeOf51
 v51:=Tryz.zeroValue51
 t146:=Tryz.underlying269
 a146:=Tryz.isAgg269
 z146:=Tryz.sizeOf269
 v146:=Tryz.zeroValue269
 g1:=by kernel_rfl
theorem ix_run:Z6 Tryz.prog 187 1:=by
 intro a b w m hl hm
 have h:=Any.stringslite_Index kY ⟨a.toArray⟩ ⟨b.toArray⟩ m w (by show a.toArray.size<_;simpa using hl) hm
 simp at h
 exact h
end Go.Proofs.YtobejhpigbllpaaGreatDoor.Am
end
section
set_option linter.unusedVariables false
set_option maxRecDepth 100000
set_option maxHeartbeats 4000000
namespace Go.Proofs.YtobejhpigbllpaaGreatDoor.Am
open Go.Proofs
theorem Sb:B9 (BD Tryz.prog) Tryz.prog Hz Ey=true:=by kernel_rfl
theorem fM:B9 (BD Tryz.prog) Tryz.prog MF GI=true:=by kernel_rfl
theorem aP:B9 (BD Tryz.prog) Tryz.prog Lz Hi=true:=by kernel_rfl
theorem Yf:B9 (BD Tryz.prog) Tryz.prog Kw Ft=true:=by kernel_rfl
theorem Yg:B9 (BD Tryz.prog) Tryz.prog Kx Gn=true:=by kernel_rfl
theorem lD:B9 (BD Tryz.prog) Tryz.prog Ox IX=true:=by kernel_rfl
theorem fC:B9 (BD Tryz.prog) Tryz.prog M5 Ib=true:=by kernel_rfl
theorem aQ:B9 (BD Tryz.prog) Tryz.prog L0 Hj=true:=by kernel_rfl
theorem UL:B9 (BD Tryz.prog) Tryz.prog Li DJ=true:=by kernel_rfl
theorem Wy:B9 (BD Tryz.prog) Tryz.prog J5 Ek=true:=by kernel_rfl
theorem Yi:B9 (BD Tryz.prog) Tryz.prog Kz Fu=true:=by kernel_rfl
theorem aN:B9 (BD Tryz.prog) Tryz.prog Ly Hh=true:=by kernel_rfl
theorem lG:B9 (BD Tryz.prog) Tryz.prog O0 IY=true:=by kernel_rfl
theorem fH:B9 (BD Tryz.prog) Tryz.prog MA Eb=true:=by kernel_rfl
theorem lC:B9 (BD Tryz.prog) Tryz.prog Ow IW=true:=by kernel_rfl
theorem Yn:B9 (BD Tryz.prog) Tryz.prog K4 Gt=true:=by kernel_rfl
theorem aO:B9 (BD Tryz.prog) Tryz.prog Ov E1=true:=by kernel_rfl
theorem lB:B9 (BD Tryz.prog) Tryz.prog R3 IV=true:=by kernel_rfl
theorem fA:B9 (BD Tryz.prog) Tryz.prog PH HZ=true:=by kernel_rfl
theorem eY:B9 (BD Tryz.prog) Tryz.prog PG Ju=true:=by kernel_rfl
theorem MP:B9 (BD Tryz.prog) Tryz.prog Ga Dw=true:=by kernel_rfl
theorem JG:B9 (BD Tryz.prog) Tryz.prog Es B5=true:=by kernel_rfl
theorem LV:B9 (BD Tryz.prog) Tryz.prog Fv Cz=true:=by kernel_rfl
theorem fL:B9 (BD Tryz.prog) Tryz.prog ME EV=true:=by kernel_rfl
theorem fI:B9 (BD Tryz.prog) Tryz.prog MB GH=true:=by kernel_rfl
theorem fB:B9 (BD Tryz.prog) Tryz.prog M4 Ia=true:=by kernel_rfl
theorem Wz:B9 (BD Tryz.prog) Tryz.prog J6 F8=true:=by kernel_rfl
theorem fD:B9 (BD Tryz.prog) Tryz.prog M6 Ic=true:=by kernel_rfl
theorem lF:B9 (BD Tryz.prog) Tryz.prog Oz G2=true:=by kernel_rfl
theorem Tq:B9 (BD Tryz.prog) Tryz.prog Ih Ee=true:=by kernel_rfl
theorem Wx:B9 (BD Tryz.prog) Tryz.prog J4 AZ=true:=by kernel_rfl
theorem W0:B9 (BD Tryz.prog) Tryz.prog J7 EL=true:=by kernel_rfl
theorem Ww:B9 (BD Tryz.prog) Tryz.prog Mf Bc=true:=by kernel_rfl
theorem Wu:B9 (BD Tryz.prog) Tryz.prog J3 F7=true:=by kernel_rfl
theorem Wv:B9 (BD Tryz.prog) Tryz.prog Me Bb=true:=by kernel_rfl
theorem aM:B9 (BD Tryz.prog) Tryz.prog Lx Cv=true:=by kernel_rfl
theorem UP:B9 (BD Tryz.prog) Tryz.prog I9 Fj=true:=by kernel_rfl
theorem aL:B9 (BD Tryz.prog) Tryz.prog Ou C8=true:=by kernel_rfl
theorem Tr:B9 (BD Tryz.prog) Tryz.prog Ii EF=true:=by kernel_rfl
theorem aK:B9 (BD Tryz.prog) Tryz.prog Ot C7=true:=by kernel_rfl
theorem Ye:B9 (BD Tryz.prog) Tryz.prog Kv BS=true:=by kernel_rfl
theorem lH:B9 (BD Tryz.prog) Tryz.prog O1 IZ=true:=by kernel_rfl
theorem Yd:B9 (BD Tryz.prog) Tryz.prog Nd Cj=true:=by kernel_rfl
theorem UO:B9 (BD Tryz.prog) Tryz.prog I8 Fi=true:=by kernel_rfl
theorem Yc:B9 (BD Tryz.prog) Tryz.prog Nc Ci=true:=by kernel_rfl
theorem Yb:B9 (BD Tryz.prog) Tryz.prog Ku Dk=true:=by kernel_rfl
theorem W4:B9 (BD Tryz.prog) Tryz.prog JB El=true:=by kernel_rfl
theorem Ya:B9 (BD Tryz.prog) Tryz.prog Nb D3=true:=by kernel_rfl
theorem W5:B9 (BD Tryz.prog) Tryz.prog JC Em=true:=by kernel_rfl
theorem eZ:B9 (BD Tryz.prog) Tryz.prog M3 GF=true:=by kernel_rfl
theorem XZ:B9 (BD Tryz.prog) Tryz.prog Na D2=true:=by kernel_rfl
theorem KE:B9 (BD Tryz.prog) Tryz.prog EA BH=true:=by kernel_rfl
theorem Q0:B9 (BD Tryz.prog) Tryz.prog Ge Dl=true:=by kernel_rfl
theorem aR:B9 (BD Tryz.prog) Tryz.prog L1 FW=true:=by kernel_rfl
theorem vQ:B9 (BD Tryz.prog) Tryz.prog S6 LH=true:=by kernel_rfl
theorem qZ:B9 (BD Tryz.prog) Tryz.prog Ql Ka=true:=by kernel_rfl
theorem fE:B9 (BD Tryz.prog) Tryz.prog M7 Id=true:=by kernel_rfl
theorem aS:B9 (BD Tryz.prog) Tryz.prog L2 Hk=true:=by kernel_rfl
theorem aW:B9 (BD Tryz.prog) Tryz.prog L6 Fc=true:=by kernel_rfl
theorem Rk:B9 (BD Tryz.prog) Tryz.prog GP Ei=true:=by kernel_rfl
theorem KF:B9 (BD Tryz.prog) Tryz.prog EB Cc=true:=by kernel_rfl
theorem W1:B9 (BD Tryz.prog) Tryz.prog J8 EM=true:=by kernel_rfl
theorem aV:B9 (BD Tryz.prog) Tryz.prog L5 Hm=true:=by kernel_rfl
theorem fO:B9 (BD Tryz.prog) Tryz.prog MH GJ=true:=by kernel_rfl
theorem Sc:B9 (BD Tryz.prog) Tryz.prog H3 Ez=true:=by kernel_rfl
theorem aX:B9 (BD Tryz.prog) Tryz.prog L7 Hn=true:=by kernel_rfl
theorem rB:B9 (BD Tryz.prog) Tryz.prog Qn Kc=true:=by kernel_rfl
theorem Py:B9 (BD Tryz.prog) Tryz.prog FP Dy=true:=by kernel_rfl
theorem Tt:B9 (BD Tryz.prog) Tryz.prog Ij EG=true:=by kernel_rfl
theorem Jn:B9 (BD Tryz.prog) Tryz.prog CX BL=true:=by kernel_rfl
theorem fJ:B9 (BD Tryz.prog) Tryz.prog MC FK=true:=by kernel_rfl
theorem fF:B9 (BD Tryz.prog) Tryz.prog M8 Ie=true:=by kernel_rfl
theorem fG:B9 (BD Tryz.prog) Tryz.prog M9 GG=true:=by kernel_rfl
theorem vP:B9 (BD Tryz.prog) Tryz.prog S5 LG=true:=by kernel_rfl
theorem fP:B9 (BD Tryz.prog) Tryz.prog MI GK=true:=by kernel_rfl
theorem UM:B9 (BD Tryz.prog) Tryz.prog I6 Fg=true:=by kernel_rfl
theorem Yj:B9 (BD Tryz.prog) Tryz.prog K0 E6=true:=by kernel_rfl
theorem fK:B9 (BD Tryz.prog) Tryz.prog MD Ig=true:=by kernel_rfl
theorem aU:B9 (BD Tryz.prog) Tryz.prog L4 Hl=true:=by kernel_rfl
theorem Q2:B9 (BD Tryz.prog) Tryz.prog Gg DK=true:=by kernel_rfl
theorem Yh:B9 (BD Tryz.prog) Tryz.prog Ky Gp=true:=by kernel_rfl
theorem Ym:B9 (BD Tryz.prog) Tryz.prog K3 Gs=true:=by kernel_rfl
theorem lI:B9 (BD Tryz.prog) Tryz.prog O2 Ja=true:=by kernel_rfl
theorem aT:B9 (BD Tryz.prog) Tryz.prog L3 FX=true:=by kernel_rfl
theorem KG:B9 (BD Tryz.prog) Tryz.prog Dx Cd=true:=by kernel_rfl
theorem rA:B9 (BD Tryz.prog) Tryz.prog Qm Kb=true:=by kernel_rfl
theorem lE:B9 (BD Tryz.prog) Tryz.prog Oy G1=true:=by kernel_rfl
theorem W6:B9 (BD Tryz.prog) Tryz.prog JD FB=true:=by kernel_rfl
theorem UQ:B9 (BD Tryz.prog) Tryz.prog IB Fk=true:=by kernel_rfl
theorem fN:B9 (BD Tryz.prog) Tryz.prog MG FL=true:=by kernel_rfl
theorem Jp:B9 (BD Tryz.prog) Tryz.prog CZ BM=true:=by kernel_rfl
theorem LW:B9 (BD Tryz.prog) Tryz.prog Eg C0=true:=by kernel_rfl
theorem OT:B9 (BD Tryz.prog) Tryz.prog Ht Ed=true:=by kernel_rfl
theorem Nw:B9 (BD Tryz.prog) Tryz.prog Gv D4=true:=by kernel_rfl
theorem MQ:B9 (BD Tryz.prog) Tryz.prog E2 CE=true:=by kernel_rfl
theorem La:B9 (BD Tryz.prog) Tryz.prog D6 Cm=true:=by kernel_rfl
theorem JH:B9 (BD Tryz.prog) Tryz.prog Et Ct=true:=by kernel_rfl
theorem UN:B9 (BD Tryz.prog) Tryz.prog I7 Fh=true:=by kernel_rfl
theorem W3:B9 (BD Tryz.prog) Tryz.prog JA FA=true:=by kernel_rfl
theorem Yl:B9 (BD Tryz.prog) Tryz.prog K2 Gr=true:=by kernel_rfl
theorem Jo:B9 (BD Tryz.prog) Tryz.prog CY B2=true:=by kernel_rfl
theorem Q1:B9 (BD Tryz.prog) Tryz.prog Gf Dm=true:=by kernel_rfl
theorem OS:B9 (BD Tryz.prog) Tryz.prog Hs Ec=true:=by kernel_rfl
theorem Sd:B9 (BD Tryz.prog) Tryz.prog H4 DE=true:=by kernel_rfl
theorem Pz:B9 (BD Tryz.prog) Tryz.prog HO C4=true:=by kernel_rfl
theorem Lb:B9 (BD Tryz.prog) Tryz.prog D7 Cn=true:=by kernel_rfl
theorem Sa:B9 (BD Tryz.prog) Tryz.prog Hy Ew=true:=by kernel_rfl
theorem Lc:B9 (BD Tryz.prog) Tryz.prog D8 Co=true:=by kernel_rfl
theorem W2:B9 (BD Tryz.prog) Tryz.prog J9 F9=true:=by kernel_rfl
theorem Yk:B9 (BD Tryz.prog) Tryz.prog K1 Gq=true:=by kernel_rfl
theorem IJ:lZ Tryz.prog C9=some Extern.BytealgIndexByte.indexByte:=by kernel_rfl
theorem Nx:lZ Tryz.prog FY=some Extern.AbiNoEscape.same:=by kernel_rfl
theorem MO:hY Tryz.prog F4=true:=by kernel_rfl
theorem Q3:hY Tryz.prog FJ=true:=by kernel_rfl
theorem KZ:hY Tryz.prog CC=true:=by kernel_rfl
theorem fits:AaZ (BD Tryz.prog) Tryz.prog tb:=by
 refine⟨by kernel_rfl,fun ao o h=>qQ ao o h,fun g p h=> ?_,fun g cs h=>(by
  have hm:=Pv h
  have all: ∀x∈gll,Bx x.2=0:=by
   simp only[gll,List.forall_mem_cons]
   exact⟨gm_2,gm_3,gm_4,fun x h=>(by cases h)⟩
  exact all _ hm),fun g fn h=> ?_⟩
 ·have hm:=Pv h
  have all: ∀x∈prl,Fw Tryz.prog tb fun g args h=>if g=x.1 then x.2 args h else none:=by
   simp only[prl,List.forall_mem_cons]
   exact⟨We IJ,qG Nx,qH MO wE,kE Q3 rfl rfl pu_run,dX KZ (List.Mem.head _) ix_run,fun x h=>(by cases h)⟩
  exact all _ hm
 have hm:=Pv h
 have all: ∀x∈fnl,B9 (BD Tryz.prog) Tryz.prog x.2 x.1=true:=by
  simp only[fnl,List.forall_mem_cons]
  exact⟨Sb,fM,aP,Yf,Yg,lD,fC,aQ,UL,Wy,Yi,aN,lG,fH,lC,Yn,aO,lB,fA,eY,MP,JG,LV,fL,fI,fB,Wz,fD,lF,Tq,Wx,W0,Ww,Wu,Wv,aM,UP,aL,Tr,aK,Ye,lH,Yd,UO,Yc,Yb,W4,Ya,W5,eZ,XZ,KE,Q0,aR,vQ,qZ,fE,aS,aW,Rk,KF,W1,aV,fO,Sc,aX,rB,Py,Tt,Jn,fJ,fF,fG,vP,fP,UM,Yj,fK,aU,Q2,Yh,Ym,lI,aT,KG,rA,lE,W6,UQ,fN,Jp,LW,OT,Nw,MQ,La,JH,UN,W3,Yl,Jo,Q1,OS,Sd,Pz,Lb,Sa,Lc,W2,Yk,fun x h=>(by cases h)⟩
 exact all _ hm
end Go.Proofs.YtobejhpigbllpaaGreatDoor.Am
end
namespace Go.Proofs.YtobejhpigbllpaaGreatDoor.Am
theorem cZ{x:Int}(h0: -9223372036854775808≤x)(h1:x<9223372036854775808):IntKind.i64.wrap x=x:=by
 simp only[IntKind.wrap,IntKind.bits,IntKind.signed];simp;omega
theorem Bu{m:Nat}(h:m<9223372036854775808):IntKind.i64.wrap (m:Int)=m:=cZ (by omega) (by omega)
section
variable{α:Type}
theorem PP{l:List α}{n:Nat}(h:n≤l.length):H8 l none (some (n:Int))=some (l.take n):=by
 simp[H8,PL,h]
theorem Hc{l:List α}{n:Nat}(h:n≤l.length):H8 l (some (n:Int)) none=some (l.drop n):=by
 simp[H8,PL,h]
theorem sY{l:List α}{m n:Nat}(h:m≤n)(h':n≤l.length):H8 l (some (m:Int)) (some (n:Int))=some ((l.take n).drop m):=by
 simp[H8,PL,h,h']
theorem tA{l:List α}{n:Nat}(h:n≤l.length):slG (.mk l) (some (n:Int)) none=some (.mk (l.drop n)):=by
 simp[slG,PL,GS.l,h,Wg]
theorem BF{l:List α}{n:Nat}:DC l (n:Int)=l[n]? :=by simp[DC]
theorem E4{n k:Nat}(h:n<k):C2 k (n:Int)=some n:=by simp[C2,h]
theorem SE{bytes:Nat}{g:GS α}{x:α}(h:(g.l.length+1)*bytes≤Di):Ng bytes g [x]=some (.mk (g.l++[x])):=by
 unfold Ng
 rw[if_pos (by simpa using h)]
 cases g<;>rfl
@[simp] theorem EI {l : List α} : (GS.mk l).l = l := rfl
@[simp] theorem GS.l_nil : (GS.nil : GS α).l = [] := rfl
theorem Se{σ β:Type}{F:σ→Option (σ⊕β)}(m:σ→Nat)(I:σ→Prop)(Q:β→Prop)
  (step: ∀s,I s→(∃s',F s=some (.inl s')∧I s'∧m s'<m s)∨ ∃b,F s=some (.inr b)∧Q b): ∀{s},I s→ ∃b,iter F s=some b∧Q b:=by
 have key: ∀n s,m s<n→I s→ ∃b,iter F s=some b∧Q b:=by
  intro n
  induction n with
  |zero=>intro s h;omega
  |succ n ih=>
   intro s h hI
   rcases step s hI with ⟨s',e,hI',hm⟩|⟨b,e,hq⟩
   ·rw[BZ e];exact ih s' (by omega) hI'
   ·exact⟨b,Bs e,hq⟩
 intro s hI
 exact key _ s (Nat.lt_succ_self _) hI
theorem IU{σ β γ:Type}{F:σ→Option (σ⊕β)}{K:β→Option γ}{r:Option γ}{s:σ}(m:σ→Nat)(I:σ→Prop)(Q:β→Prop)(h:I s)
  (step: ∀s,I s→(∃s',F s=some (.inl s')∧I s'∧m s'<m s)∨ ∃b,F s=some (.inr b)∧Q b) (fin: ∀b,Q b→K b=r):(iter F s).bind K=r:=by
 obtain⟨b,e,hb⟩:=Se m I Q step h
 rw[e];exact fin b hb
theorem vR{σ β:Type}{F:σ→Option (σ⊕β)}{b:β}(m:σ→Nat)(I:σ→Prop)
  (step: ∀s,I s→(∃s',F s=some (.inl s')∧I s'∧m s'<m s)∨F s=some (.inr b)) {s:σ} (h:I s):iter F s=some b:=by
 obtain⟨b',e,rfl⟩:=Se m I (fun b'=>b'=b) (fun s hs=>(step s hs).imp_right fun e=>⟨b,e,rfl⟩) h
 exact e
end
def AL(c:UInt8):AH→List AH
 |[]=>[[]]
 |x::l=>if x=c then []::AL c l else match AL c l with
  |[]=>[[x]]
  |h::t=>(x::h)::t
theorem CD{c:UInt8}: ∀l,AL c l≠[]
 |[]=>by simp[AL]
 |x::l=>by
  simp only[AL]
  split
  ·simp
  ·split<;>simp
theorem HC{c:UInt8}: ∀{p:AH},(∀x∈p,x≠c)→AL c p=[p]
 |[],_=>rfl
 |x::p,h=>by
  simp only[AL,if_neg (h x List.mem_cons_self),HC fun y hy=>h y (List.mem_cons_of_mem _ hy)]
theorem GA{c:UInt8}{q:AH}: ∀{p:AH},(∀x∈p,x≠c)→AL c (p++c::q)=p::AL c q
 |[],_=>by simp[AL]
 |x::p,h=>by
  simp only[List.cons_append,AL,if_neg (h x List.mem_cons_self),GA fun y hy=>h y (List.mem_cons_of_mem _ hy)]
theorem FT{c:UInt8}: ∀l:AH,(AL c l).length=l.countP (fun x=>x==c)+1
 |[]=>rfl
 |x::l=>by
  have ih:=FT (c:=c) l
  simp only[AL]
  by_cases hx:x=c
  ·rw[if_pos hx,List.length_cons,ih,List.countP_cons_of_pos (by simp[hx])]
  ·rw[if_neg hx,List.countP_cons_of_neg (by simp[hx])]
   split
   ·rename_i e;exact absurd e (CD l)
   ·rename_i e;rw[e]at ih;simpa using ih
theorem Mz(l:AH)(c:UInt8):((∀x∈l,x≠c)∧N2 l c= -1)∨ ∃p q,l=p++c::q∧(∀x∈p,x≠c)∧N2 l c=(p.length:Int):=by
 unfold N2
 cases e:l.findIdx? (fun x=>x==c)with
 |none=>
  left
  rw[List.findIdx?_eq_none_iff]at e
  exact⟨fun x hx=>by simpa using e x hx,rfl⟩
 |some i=>
  right
  rw[List.findIdx?_eq_some_iff_getElem]at e
  obtain⟨h,h1,h2⟩:=e
  have hc:l[i]=c:=by simpa using h1
  refine⟨l.take i,l.drop (i+1),?_,?_,?_⟩
  ·rw[←hc,←List.drop_eq_getElem_cons h,List.take_append_drop]
  ·intro x hx
   obtain⟨j,hj,rfl⟩:=List.mem_iff_getElem.1 hx
   rw[List.length_take]at hj
   have:=h2 j (by omega)
   rw[List.getElem_take]
   simpa using this
  ·rw[List.length_take];simp only[Int.ofNat_inj];omega
end Go.Proofs.YtobejhpigbllpaaGreatDoor.Am
