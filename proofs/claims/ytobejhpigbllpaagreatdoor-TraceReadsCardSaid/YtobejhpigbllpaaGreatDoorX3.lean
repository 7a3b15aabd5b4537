/-
  Structures, as Lean's and as types of the machine's. Printed by mkwalk.py.
-/
import Derived.Test.YtobejhpigbllpaaGreatDoorProg
import Derived.Lib.MakeNoZero
import Derived.Lib.Builder
import Derived.Lib.Walk
import Derived.WalkKit
import Derived.Laws.Externs
import Derived.Laws.IdiomCopy
import Derived.KernelRfl
import Derived.Shelf.Pu.ParseUintPublic10
import Derived.Shelf.Strings.Search2
import Derived.Test.YtobejhpigbllpaaGreatDoorX2
set_option linter.unusedVariables false
set_option linter.unusedSimpArgs false
namespace Go.Proofs.YtobejhpigbllpaaGreatDoor.Am
open Builtin renaming copy_→ml
open Extern.AbiNoEscape renaming same→mu
open Extern.BytealgCount renaming count→mf
open Extern.BytealgIndexByte renaming indexByte→kw
open FG renaming arr→po, u8→qe
open GS renaming l→l6
open IntKind renaming bits→f4, i64→qm, signed→j4, wrap→ql
open List renaming all_eq_true→cd, cons_append→dt, countP_le_length→eu, drop_drop→ck, drop_eq_getElem_cons→bk, drop_left'→ez, forall_mem_cons→j9, getElem?_append_right→bo, length_cons→bb, length_take→a6, mem_cons_of_mem→bg, mem_cons_self→bj, mem_iff_getElem→n0, replicate→aq, set_append_right→ni, set_cons_zero→ir, size_toArray→j2, take_append_drop→fq, take_left'→il
open Nat renaming le_refl→be, sub_self→jq
open T renaming arr→ak, sl→bq, u16→dr, u64→fm, u8→a7
open Tryz renaming prog→c9, underlying110→md, underlying175→oy, underlying262→o0, underlying3→my, underlying4→mz
open World renaming cell?→f7, frozen?→jc
section
set_option maxRecDepth 100000
set_option maxHeartbeats 4000000
structure AX where
 V:Int
 B:(Ar UInt8 16)
 deriving DecidableEq
def Aw:T:=UQ (G5 qj (ak 16 a7)) AX (fun x=>(x.V,x.B)) (fun p=>⟨p.1,p.2⟩) (fun _=>rfl)
def D6:AR Aw qj 0:=IY (LF (Ao _))
def D7:AR Aw (ak 16 a7) 1:=IY (E6 (Ao _))
def PQ:=qJ (g:=fun p=>⟨p.1,p.2⟩) (hfg:=fun _=>rfl) (gA (FG.int .i64) (po 16 qe)) (fun(x y:AX)=>inferInstance) (f:=fun x=>(x.V,x.B)) (by rintro⟨⟩ ⟨⟩ h;cases h;rfl)
structure AI where
 A:AX
 Port:Int
 deriving DecidableEq
def Aq:T:=UQ (G5 Aw qj) AI (fun x=>(x.A,x.Port)) (fun p=>⟨p.1,p.2⟩) (fun _=>rfl)
def CZ:AR Aq Aw 0:=IY (LF (Ao _))
def Db:AR Aq qj 17:=IY (E6 (Ao _))
def HZ:=qJ (g:=fun p=>⟨p.1,p.2⟩) (hfg:=fun _=>rfl) (gA PQ (FG.int .i64)) (fun(x y:AI)=>inferInstance) (f:=fun x=>(x.A,x.Port)) (by rintro⟨⟩ ⟨⟩ h;cases h;rfl)
structure Al where
 Kind:Int
 Bytes:(GS UInt8)
 To:AI
 Key:(Ar UInt8 32)
 Why:Int
 deriving DecidableEq
def Ae:T:=UQ (G5 qj (G5 (Io (bq a7)) (G5 Aq (G5 (ak 32 a7) qj)))) Al (fun x=>(x.Kind,x.Bytes,x.To,x.Key,x.Why)) (fun p=>⟨p.1,p.2.1,p.2.2.1,p.2.2.2.1,p.2.2.2.2⟩) (fun _=>rfl)
def AQ:AR Ae qj 0:=IY (LF (Ao _))
def AS:AR Ae (Io (bq a7)) 1:=IY (E6 (LF (Ao _)))
def BI:AR Ae Aq 2:=IY (E6 (E6 (LF (Ao _))))
def Ca:AR Ae (ak 32 a7) 20:=IY (E6 (E6 (E6 (LF (Ao _)))))
def BP:AR Ae qj 52:=IY (E6 (E6 (E6 (E6 (Ao _)))))
structure A8 where
 g_:(Ar UInt16 8)
 n_:Int
 gap_:Int
 deriving DecidableEq
def AD:T:=UQ (G5 (ak 8 dr) (G5 qj qj)) A8 (fun x=>(x.g_,x.n_,x.gap_)) (fun p=>⟨p.1,p.2.1,p.2.2⟩) (fun _=>rfl)
def Dg:AR AD (ak 8 dr) 0:=IY (LF (Ao _))
def Bb:AR AD qj 8:=IY (E6 (LF (Ao _)))
def Da:AR AD qj 9:=IY (E6 (E6 (Ao _)))
structure Ni where
 lo_:UInt8
 hi_:UInt8
 deriving DecidableEq
def Ng:T:=UQ (G5 a7 a7) Ni (fun x=>(x.lo_,x.hi_)) (fun p=>⟨p.1,p.2⟩) (fun _=>rfl)
abbrev F4:AG:=[48,48,48,49,48,50,48,51,48,52,48,53,48,54,48,55,48,56,48,57,49,48,49,49,49,50,49,51,49,52,49,53,49,54,49,55,49,56,49,57,50,48,50,49,50,50,50,51,50,52,50,53,50,54,50,55,50,56,50,57,51,48,51,49,51,50,51,51,51,52,51,53,51,54,51,55,51,56,51,57,52,48,52,49,52,50,52,51,52,52,52,53,52,54,52,55,52,56,52,57,53,48,53,49,53,50,53,51,53,52,53,53,53,54,53,55,53,56,53,57,54,48,54,49,54,50,54,51,54,52,54,53,54,54,54,55,54,56,54,57,55,48,55,49,55,50,55,51,55,52,55,53,55,54,55,55,55,56,55,57,56,48,56,49,56,50,56,51,56,52,56,53,56,54,56,55,56,56,56,57,57,48,57,49,57,50,57,51,57,52,57,53,57,54,57,55,57,56,57,57]
abbrev str_1:AG:=[0,1,2,2,3,3,3,3,4,4,4,4,4,4,4,4,5,5,5,5,5,5,5,5,5,5,5,5,5,5,5,5,6,6,6,6,6,6,6,6,6,6,6,6,6,6,6,6,6,6,6,6,6,6,6,6,6,6,6,6,6,6,6,6,7,7,7,7,7,7,7,7,7,7,7,7,7,7,7,7,7,7,7,7,7,7,7,7,7,7,7,7,7,7,7,7,7,7,7,7,7,7,7,7,7,7,7,7,7,7,7,7,7,7,7,7,7,7,7,7,7,7,7,7,7,7,7,7,8,8,8,8,8,8,8,8,8,8,8,8,8,8,8,8,8,8,8,8,8,8,8,8,8,8,8,8,8,8,8,8,8,8,8,8,8,8,8,8,8,8,8,8,8,8,8,8,8,8,8,8,8,8,8,8,8,8,8,8,8,8,8,8,8,8,8,8,8,8,8,8,8,8,8,8,8,8,8,8,8,8,8,8,8,8,8,8,8,8,8,8,8,8,8,8,8,8,8,8,8,8,8,8,8,8,8,8,8,8,8,8,8,8,8,8,8,8,8,8,8,8,8,8,8,8,8,8]
end
section
set_option maxRecDepth 100000
set_option maxHeartbeats 4000000
def H6:Nat:=5
def L7:Nat:=9
def GY:Nat:=10
def JM:Nat:=11
def IG:Nat:=12
def JJ:Nat:=13
def JK:Nat:=14
def L3:Nat:=15
def L4:Nat:=16
def Mp:Nat:=17
def JI:Nat:=18
def Lc:Nat:=19
def Mu:Nat:=20
def II:Nat:=21
def JN:Nat:=30
def Fq:Nat:=31
def FK:Nat:=32
def HQ:Nat:=33
def Lb:Nat:=34
def IJ:Nat:=35
def Mt:Nat:=36
def GC:Nat:=37
def L5:Nat:=38
def Fl:Nat:=39
def N7:Nat:=40
def E9:Nat:=41
def N4:Nat:=42
def Lf:Nat:=43
def JQ:Nat:=44
def JV:Nat:=45
def JO:Nat:=55
def Gf:Nat:=56
def N3:Nat:=57
def Mn:Nat:=58
def Ps:Nat:=59
def FF:Nat:=60
def BH:Nat:=61
def Df:Nat:=62
def GX:Nat:=63
def Fe:Nat:=64
def L6:Nat:=65
def Mo:Nat:=66
def IS:Nat:=67
def Mq:Nat:=68
def Jv:Nat:=69
def FT:Nat:=70
def JR:Nat:=71
def FW:Nat:=75
def Bf:Nat:=84
def Hi:Nat:=85
def Bh:Nat:=86
def IR:Nat:=87
def Bg:Nat:=88
def CY:Nat:=89
def Ij:Nat:=90
def Dw:Nat:=91
def H7:Nat:=92
def Dv:Nat:=93
def C2:Nat:=94
def N8:Nat:=95
def CE:Nat:=96
def Ii:Nat:=97
def CD:Nat:=98
def Eh:Nat:=99
def FL:Nat:=100
def EF:Nat:=101
def FM:Nat:=102
def JH:Nat:=103
def EE:Nat:=104
def CF:Nat:=105
def FE:Nat:=106
def EG:Nat:=107
def N5:Nat:=108
def N6:Nat:=109
def IK:Nat:=110
def RR:Nat:=111
def Pt:Nat:=112
def Mr:Nat:=113
def Le:Nat:=114
def Cs:Nat:=115
def Id:Nat:=116
def F2:Nat:=117
def Hx:Nat:=120
def Gt:Nat:=122
def D2:Nat:=132
def Hj:Nat:=133
def Lh:Nat:=134
def JW:Nat:=135
def GZ:Nat:=136
def Li:Nat:=137
def Pw:Nat:=138
def F3:Nat:=139
def H8:Nat:=140
def FV:Nat:=141
def Gh:Nat:=142
def CV:Nat:=144
def Ld:Nat:=145
def MO:Nat:=146
def KH:Nat:=147
def Ig:Nat:=148
def Ms:Nat:=149
def JP:Nat:=150
def RQ:Nat:=151
def Gs:Nat:=152
def CP:Nat:=153
def JX:Nat:=156
def Fs:Nat:=158
def G1:Nat:=164
def Mv:Nat:=165
def Lg:Nat:=166
def FU:Nat:=167
def JL:Nat:=168
def JU:Nat:=169
def N9:Nat:=170
def IL:Nat:=171
def D3:Nat:=172
def CH:Nat:=175
def GT:Nat:=176
def Pv:Nat:=177
def Ju:Nat:=178
def GR:Nat:=179
def Ie:Nat:=180
def CM:Nat:=187
def IW:Nat:=205
def Il:Nat:=206
def Ik:Nat:=207
def CW:Nat:=208
def DS:Nat:=209
def GV:Nat:=210
def Gg:Nat:=211
def Ey:Nat:=212
def DA:Nat:=213
def Ei:Nat:=214
def KI:Nat:=215
def Ih:Nat:=222
def Cr:Nat:=223
def CO:Nat:=224
def Dp:Nat:=225
def IV:Nat:=232
def JT:Nat:=233
def Ct:Nat:=234
def EH:Nat:=235
def GU:Nat:=236
def Fx:Nat:=237
def DD:Nat:=238
def DB:Nat:=239
def GW:Nat:=240
def DC:Nat:=241
def C1:Nat:=247
def IU:Nat:=249
def JS:Nat:=250
noncomputable def Sq:AC:=(.seq (sf [mt 93 13,mt 94 12,oz 95 (.len (.t 94)),oz 96 (.bin .lss (.t 93) (.t 95))] (.cond (.t 96) .skip (.exit 0))) (.seq (.blk 1 (sf [mt 100 12,mt 101 13,oz 102 (.ias 1 (.t 100) (.t 101)),oz 103 (.ld false 1 (.t 102)),oz 104 (.call Mp [(.t 103)]),mt 99 104,oz 105 (.ext (.t 99) 0),oz 106 (.ext (.t 99) 1),oz 14 (.alloc 32 Ae.zc),on (.st 53 (.t 14) (.t 105)),mt 15 106] (sf [mt 107 15,oz 108 (.bin .neq (.t 107) (ki 0))] (.cond (.t 108) (sf [mt 109 9,oz 110 (.len (.t 109)),oz 111 (.bin .eql (.t 110) (ki 0)),mt 112 111,⟨some 113,some (112,true), .mv (.t 10)⟩,⟨some 114,some (112,true), .mv (.t 13)⟩,⟨some 115,some (112,true), .bin .add (.t 114) (ki 1)⟩,⟨some 116,some (112,true), .bin .eql (.t 113) (.t 115)⟩,oz 117 (.pick (.t 112) (.t 116) (.k (.b false))),mt 118 117,⟨some 119,some (118,true), .mv (.t 11)⟩,⟨some 120,some (118,true), .mv (.t 15)⟩,⟨some 121,some (118,true), .bin .eql (.t 119) (.t 120)⟩,oz 122 (.pick (.t 118) (.t 121) (.k (.b false))),mt 123 122,⟨some 124,some (123,true), .call GY []⟩,oz 125 (.pick (.t 123) (.t 124) (.k (.b false))),mt 6 125] .ret) .skip)))) (rg false [mt 97 13,oz 98 (.bin .add (.t 97) (ki 1)),mt 13 98])))
noncomputable def KK:CI:=⟨false,3,151,[.tmp 6],(sf [oz 4 (.box 32 53 (.t 1)),oz 5 (.box 32 53 (.t 2)),oz 6 (.mv (.k (.b false)))] (.seq (sf [mt 16 0,oz 17 (.lens (.t 16)),oz 18 (.bin .gtr (.t 17) (ki 9000)),mt 19 18,⟨some 20,some (19,false), .ld true 53 (.t 4)⟩,⟨some 21,some (19,false), .call L7 [(.t 20)]⟩,oz 22 (.pick (.t 19) (.k (.b true)) (.t 21)),mt 23 22,⟨some 24,some (23,false), .ld true 53 (.t 5)⟩,⟨some 25,some (23,false), .call L7 [(.t 24)]⟩,oz 26 (.pick (.t 23) (.k (.b true)) (.t 25))] (.cond (.t 26) (sf [oz 27 (.call GY []),mt 6 27] .ret) .skip)) (sf [oz 29 (.ld true 53 (.t 4)),oz 30 (.ld true 53 (.t 5)),oz 31 (.bll 53 (aq 2 Ae.zc) [(0,(.t 29)),(1,(.t 30))]),oz 32 (.call JI [(.t 31)]),mt 28 32,oz 33 (.ext (.t 28) 0),oz 34 (.ext (.t 28) 1),mt 7 33,mt 8 34] (.seq (sf [oz 35 (.ld true 53 (.t 4)),oz 36 (.call JM [(.t 35)]),mt 37 36,⟨some 38,some (37,true), .ld true 53 (.t 5)⟩,⟨some 39,some (37,true), .call JM [(.t 38)]⟩,oz 40 (.pick (.t 37) (.t 39) (.k (.b false)))] (.cond (.t 40) (sr [mt 41 7,oz 42 (.ld true 53 (.t 4)),oz 43 (.call L3 [(.t 42)]),oz 44 (.bin .add (.t 43) (.k (.s [10]))),oz 45 (.ld true 53 (.t 5)),oz 46 (.call L3 [(.t 45)]),oz 47 (.bin .add (.t 44) (.t 46)),oz 48 (.bin .add (.t 47) (.k (.s [10]))),oz 49 (.bin .neq (.t 41) (.t 48)),mt 50 49,⟨some 51,some (50,false), .mv (.t 8)⟩,⟨some 52,some (50,false), .bin .neq (.t 51) (ki 0)⟩,oz 53 (.pick (.t 50) (.k (.b true)) (.t 52))] (.cond (.t 53) (sf [oz 6 (.mv (.k (.b false)))] .ret) .skip)) (sf [mt 54 7,oz 55 (.bin .neq (.t 54) (.k (.s []))),mt 56 55,⟨some 57,some (56,false), .mv (.t 8)⟩,⟨some 58,some (56,false), .bin .neq (.t 57) (ki 1)⟩,oz 59 (.pick (.t 56) (.k (.b true)) (.t 58))]
  (.cond (.t 59) (sf [oz 6 (.mv (.k (.b false)))] .ret) .skip)))) (sf [mt 61 0,oz 62 (.call Lc [(.t 61)]),mt 60 62,oz 63 (.ext (.t 60) 0),oz 64 (.ext (.t 60) 1),oz 65 (.ext (.t 60) 2),mt 9 63,mt 10 64,mt 11 65] (.seq (sf [mt 66 0,oz 67 (.lens (.t 66)),oz 68 (.bin .gtr (.t 67) (ki 0)),mt 69 68,⟨some 70,some (69,true), .mv (.t 0)⟩,⟨some 71,some (69,true), .mv (.t 0)⟩,⟨some 72,some (69,true), .lens (.t 71)⟩,⟨some 73,some (69,true), .bin .sub (.t 72) (ki 1)⟩,⟨some 74,some (69,true), .ixs (.t 70) (.t 73)⟩,⟨some 75,some (69,true), .bin .neq (.t 74) (.k (.i .u8 10))⟩,oz 76 (.pick (.t 69) (.t 75) (.k (.b false)))] (.cond (.t 76) (sf [mt 77 9,oz 78 (.len (.t 77)),oz 79 (.bin .eql (.t 78) (ki 0)),mt 80 79,⟨some 81,some (80,true), .mv (.t 10)⟩,⟨some 82,some (80,true), .bin .eql (.t 81) (ki 0)⟩,oz 83 (.pick (.t 80) (.t 82) (.k (.b false))),mt 84 83,⟨some 85,some (84,true), .mv (.t 11)⟩,⟨some 86,some (84,true), .bin .eql (.t 85) (ki 5)⟩,oz 87 (.pick (.t 84) (.t 86) (.k (.b false))),mt 88 87,⟨some 89,some (88,true), .call GY []⟩,oz 90 (.pick (.t 88) (.t 89) (.k (.b false))),mt 6 90] .ret) .skip)) (sf [mt 91 0,oz 92 (.call Mu [(.t 91)]),mt 12 92] (.seq (sf [oz 13 (.mv (ki 0))] (.blk 0 (.loop [4,5,9,10,11,12,13] Sq))) (sr [mt 126 9,oz 127 (.len (.t 126)),mt 128 12,oz 129 (.len (.t 128)),oz 130 (.bin .eql (.t 127) (.t 129)),mt 131 130,⟨some 132,some (131,true), .mv (.t 10)⟩,⟨some 133,some (131,true), .bin .eql (.t 132) (ki 0)⟩,oz 134 (.pick (.t 131) (.t 133) (.k (.b false))),mt 135 134,⟨some 136,some (135,true), .mv (.t 11)⟩,⟨some 137,some (135,true), .bin .eql (.t 136) (ki 0)⟩,oz 138 (.pick (.t 135) (.t 137) (.k (.b false))),mt 139 138,⟨some 140,some (139,true), .ld true 53 (.t 4)⟩,⟨some 141,some (139,true), .ld true 53 (.t 5)⟩,⟨some 142,some (139,true), .call II [(.t 140),(.t 141)]⟩,⟨some 143,some (139,true), .ld true 53 (.t 4)⟩,⟨some 144,some (139,true), .ld true 53 (.t 5)⟩,⟨some 145,some (139,true), .call L4 [(.t 143),(.t 144)]⟩,⟨some 146,some (139,true), .eq false (.one (.b)) (.t 142) (.t 145)⟩,oz 147 (.pick (.t 139) (.t 146) (.k (.b false))),mt 148 147,⟨some 149,some (148,true), .call GY []⟩,oz 150 (.pick (.t 148) (.t 149) (.k (.b false))),mt 6 150]
 .ret)))))))))⟩
noncomputable def TE:CI:=⟨false,1,7,[.tmp 2],(sf [oz 1 (.box 32 53 (.t 0)),oz 2 (.mv (.k (.b false)))] (sf [oz 3 (.fa 1 (.t 1)),oz 4 (.ld false 1 (.t 3)),oz 5 (.len (.t 4)),oz 6 (.bin .gtr (.t 5) (ki 9000)),mt 2 6] .ret))⟩
noncomputable def Ry:CI:=⟨false,0,14,[.tmp 0],(sf [oz 0 (.mv (.k (.b false)))] (sf [oz 4 (.bld Ae.zc [(0,1,(ki 5)),(52,1,(ki 7))]),oz 5 (.call IG [(.t 4)]),mt 3 5,oz 6 (.ext (.t 3) 0),oz 7 (.ext (.t 3) 1),mt 1 6,mt 2 7] (sf [mt 8 2,oz 9 (.bin .eql (.t 8) (ki 0)),mt 10 9,⟨some 11,some (10,true), .mv (.t 1)⟩,⟨some 12,some (10,true), .bin .eql (.t 11) (.k (.s [100,114,111,112,32,55]))⟩,oz 13 (.pick (.t 10) (.t 12) (.k (.b false))),mt 0 13] .ret)))⟩
noncomputable def Rh:CI:=⟨false,1,73,[.tmp 2],(sf [oz 1 (.box 32 53 (.t 0)),oz 2 (.mv (.k (.b false)))] (sf [oz 4 (.fa 0 (.t 1)),oz 5 (.ld false 1 (.t 4)),oz 6 (.bld Ae.zc [(0,1,(.t 5))]),oz 3 (.alloc 32 Ae.zc),on (.st 53 (.t 3) (.t 6))] (.seq (sf [oz 7 (.fa 0 (.t 1)),oz 8 (.ld false 1 (.t 7))] (.blk 0 (.seq (sf [oz 10 (.bin .eql (.t 8) (ki 1)),mt 9 10] (.cond (.t 9) .skip (rg false [oz 11 (.bin .eql (.t 8) (ki 4)),mt 9 11]))) (.cond (.t 9) (rg false [oz 12 (.fa 1 (.t 1)),oz 13 (.ld false 1 (.t 12)),oz 14 (.fa 1 (.t 3)),on (.st 1 (.t 14) (.t 13))]) (sf [oz 16 (.bin .eql (.t 8) (ki 2)),mt 15 16] (.cond (.t 15) (sf [oz 17 (.fa 1 (.t 1)),oz 18 (.ld false 1 (.t 17)),oz 19 (.fa 1 (.t 3)),on (.st 1 (.t 19) (.t 18))] (sf [oz 20 (.fa 2 (.t 1)),oz 21 (.ld true 18 (.t 20)),oz 22 (.fa 2 (.t 3)),on (.st 18 (.t 22) (.t 21))] (rg false [oz 23 (.fa 20 (.t 1)),oz 24 (.ld true 32 (.t 23)),oz 25 (.fa 20 (.t 3)),on (.st 32 (.t 25) (.t 24))]))) (sf [oz 27 (.bin .eql (.t 8) (ki 3)),mt 26 27] (.cond (.t 26) (sf [oz 28 (.fa 1 (.t 1)),oz 29 (.ld false 1 (.t 28)),oz 30 (.fa 1 (.t 3)),on (.st 1 (.t 30) (.t 29))] (rg false [oz 31 (.fa 20 (.t 1)),oz 32 (.ld true 32 (.t 31)),oz 33 (.fa 20 (.t 3)),on (.st 32 (.t 33) (.t 32))])) (sf [oz 35 (.bin .eql (.t 8) (ki 5)),mt 34 35] (.cond (.t 34) (sf [oz 36 (.fa 52 (.t 1)),oz 37 (.ld false 1 (.t 36)),oz 38 (.fa 52 (.t 3)),on (.st 1 (.t 38) (.t 37))] (sf [oz 39 (.fa 52 (.t 1)),oz 40 (.ld false 1 (.t 39)),oz 41 (.bin .lss (.t 40) (ki 1)),mt 42 41,⟨some 43,some (42,false), .fa 52 (.t 1)⟩,⟨some 44,some (42,false), .ld false 1 (.t 43)⟩,⟨some 45,some (42,false), .bin .gtr (.t 44) (ki 20)⟩,oz 46 (.pick (.t 42) (.k (.b true)) (.t 45))]
    (.cond (.t 46) (sf [oz 2 (.mv (.k (.b false)))] .ret) .skip))) (sf [oz 48 (.bin .eql (.t 8) (ki 6)),mt 47 48] (.cond (.t 47) (sf [oz 49 (.fa 1 (.t 1)),oz 50 (.ld false 1 (.t 49)),oz 51 (.fa 1 (.t 3)),on (.st 1 (.t 51) (.t 50))] (rg false [oz 52 (.fa 2 (.t 1)),oz 53 (.ld true 18 (.t 52)),oz 54 (.fa 2 (.t 3)),on (.st 18 (.t 54) (.t 53))])) (sf [oz 2 (.mv (.k (.b false)))] .ret))))))))))))) (sf [oz 55 (.ld true 53 (.t 3)),oz 56 (.ld true 53 (.t 1)),oz 57 (.call L4 [(.t 55),(.t 56)]),mt 58 57,⟨some 59,some (58,true), .fa 0 (.t 1)⟩,⟨some 60,some (58,true), .ld false 1 (.t 59)⟩,⟨some 61,some (58,true), .bin .neq (.t 60) (ki 2)⟩,⟨some 62,some (58,true), .mv (.t 61)⟩,⟨some 63,some (62,true), .fa 0 (.t 1)⟩,⟨some 64,some (62,true), .ld false 1 (.t 63)⟩,⟨some 65,some (62,true), .bin .neq (.t 64) (ki 6)⟩,⟨some 66,some (58,true), .pick (.t 62) (.t 65) (.k (.b false))⟩,⟨some 67,some (58,true), .mv (.t 66)⟩,⟨some 68,some (67,false), .fa 2 (.t 1)⟩,⟨some 69,some (67,false), .ld true 18 (.t 68)⟩,⟨some 70,some (67,false), .call JN [(.t 69)]⟩,⟨some 71,some (58,true), .pick (.t 67) (.k (.b true)) (.t 70)⟩,oz 72 (.pick (.t 58) (.t 71) (.k (.b false))),mt 2 72] .ret))))⟩
noncomputable def XD:AC:=(sf [oz 25 (.bin .lss (.t 24) (.t 23))] (.seq (.cond (.t 25) .skip (.exit 0)) (.seq (.blk 1 (sf [oz 26 (.ias 3 (.t 22) (.t 24)),oz 27 (.ld true 3 (.t 26)),oz 8 (.alloc 72 (zz [(3, .nilf)])),on (.st 3 (.t 8) (.t 27))] (rg false [mt 28 6,oz 29 (.fa 0 (.t 8)),oz 30 (.ld false 1 (.t 29)),oz 31 (.ld true 53 (.t 1)),oz 32 (.callv (.t 30) [(.t 31)]),oz 33 (.bll 1 (aq 1 Ak.zc) [(0,(.t 32))]),oz 34 (.app 9 1 16 (.t 28) (.t 33)),mt 6 34]))) (rg false [oz 35 (.bin .add (.t 24) (ki 1)),mt 24 35]))))
noncomputable def P5:CI:=⟨false,1,38,[.tmp 2, .tmp 3],(sf [oz 1 (.box 32 53 (.t 0)),oz 2 (.mv (.k (.s []))),oz 3 (.mv (ki 0))] (.seq (sf [oz 9 (.ld true 53 (.t 1)),oz 10 (.call JJ [(.t 9)]),oz 11 (.un .not (.t 10))] (.cond (.t 11) (sf [oz 2 (.mv (.k (.s []))),oz 3 (.mv (ki 1))] .ret) .skip)) (sf [oz 13 (.fa 0 (.t 1)),oz 14 (.ld false 1 (.t 13)),oz 15 (.call Fq [(.t 14)]),mt 12 15,oz 16 (.ext (.t 12) 0),oz 17 (.ext (.t 12) 1),oz 4 (.alloc 66 (zz [(1, .s []),(1, .nils)])),on (.st 2 (.t 4) (.t 16)),mt 5 17] (sf [oz 18 (.fa 0 (.t 4)),oz 19 (.ld false 1 (.t 18)),oz 20 (.bls 9 1 (aq 1 Ak.zc) [(0,(.t 19))]),mt 6 20] (.seq (sf [oz 21 (.fa 1 (.t 4)),oz 22 (.ld false 1 (.t 21)),oz 23 (.len (.t 22)),oz 24 (.mv (ki 0))] (.blk 0 (.loop [1,6,22,23,24] XD))) (sf [mt 36 6,oz 37 (.call FK [(.t 36),(.k (.s [32]))]),mt 2 37,oz 3 (.mv (ki 0))] .ret))))))⟩
noncomputable def VR:AC:=(sf [oz 17 (.bin .lss (.t 16) (.t 15))] (.seq (.cond (.t 17) .skip (.exit 0)) (.seq (.blk 1 (sf [oz 18 (.ias 3 (.t 14) (.t 16)),oz 19 (.ld true 3 (.t 18)),oz 6 (.alloc 72 (zz [(3, .nilf)])),on (.st 3 (.t 6) (.t 19))] (rg false [oz 20 (.fa 2 (.t 6)),oz 21 (.ld false 1 (.t 20)),oz 22 (.callv (.t 21) [(.t 1)]),mt 23 22,⟨some 24,some (23,true), .mv (.t 4)⟩,oz 25 (.pick (.t 23) (.t 24) (.k (.b false))),mt 4 25]))) (rg false [oz 26 (.bin .add (.t 16) (ki 1)),mt 16 26]))))
noncomputable def NW:CI:=⟨false,1,35,[.tmp 2],(sf [oz 1 (.box 32 53 (.t 0)),oz 2 (.mv (.k (.b false)))] (sf [oz 8 (.fa 0 (.t 1)),oz 9 (.ld false 1 (.t 8)),oz 10 (.call Fq [(.t 9)]),mt 7 10,oz 11 (.ext (.t 7) 0),oz 12 (.ext (.t 7) 1),oz 3 (.alloc 66 (zz [(1, .s []),(1, .nils)])),on (.st 2 (.t 3) (.t 11)),mt 4 12] (.seq (sf [oz 13 (.fa 1 (.t 3)),oz 14 (.ld false 1 (.t 13)),oz 15 (.len (.t 14)),oz 16 (.mv (ki 0))] (.blk 0 (.loop [1,4,14,15,16] VR))) (sf [mt 27 4,mt 28 27,⟨some 29,some (28,true), .ld true 53 (.t 1)⟩,⟨some 30,some (28,true), .fa 0 (.t 1)⟩,⟨some 31,some (28,true), .ld false 1 (.t 30)⟩,⟨some 32,some (28,true), .bld Ae.zc [(0,1,(.t 31))]⟩,⟨some 33,some (28,true), .call II [(.t 29),(.t 32)]⟩,oz 34 (.pick (.t 28) (.t 33) (.k (.b false))),mt 2 34] .ret))))⟩
noncomputable def VS:AC:=(sf [oz 42 (.bin .lss (.t 41) (.t 40))] (.seq (.cond (.t 42) .skip (.exit 1)) (.seq (.blk 2 (sf [mt 43 41,oz 44 (.ias 3 (.t 39) (.t 41)),oz 45 (.ld true 3 (.t 44)),oz 9 (.alloc 72 (zz [(3, .nilf)])),mt 8 43,on (.st 3 (.t 9) (.t 45))] (.seq (.regd [oz 46 (.fa 1 (.t 9)),oz 47 (.ld false 1 (.t 46)),mt 48 4,mt 49 8,oz 50 (.bin .add (.t 49) (ki 1)),oz 51 (.ias 1 (.t 48) (.t 50)),oz 52 (.ld false 1 (.t 51)),oz 53 (.callv (.t 47) [(.t 5),(.t 52)]),mt 10 53] [some (0,0),some (0,0),some (0,0),some (0,0),some (0,0),some (0,0),some (0,0),none,some (1,1)]) (sf [mt 54 10,oz 55 (.bin .neq (.t 54) (ki 0))] (.cond (.t 55) (sf [oz 56 (.bld Ae.zc []),mt 57 10,on (.st 53 (.t 2) (.t 56)),mt 3 57] .ret) .skip))))) (rg false [oz 58 (.bin .add (.t 41) (ki 1)),mt 41 58]))))
noncomputable def NX:CI:=⟨false,1,60,[.cell true 53 2, .tmp 3],(sf [oz 2 (.alloc 32 Ae.zc),oz 3 (.mv (ki 0))] (sf [mt 11 0,oz 12 (.ixs (.k (.s [32])) (ki 0)),oz 13 (.call HQ [(.t 11),(.t 12)]),mt 4 13] (sf [mt 14 4,oz 15 (.ias 1 (.t 14) (ki 0)),oz 16 (.ld false 1 (.t 15)),oz 17 (.call Lb [(.t 16)]),oz 18 (.bld Ae.zc [(0,1,(.t 17))]),oz 5 (.alloc 32 Ae.zc),on (.st 53 (.t 5) (.t 18))] (sf [oz 20 (.fa 0 (.t 5)),oz 21 (.ld false 1 (.t 20)),oz 22 (.call Fq [(.t 21)]),mt 19 22,oz 23 (.ext (.t 19) 0),oz 24 (.ext (.t 19) 1),oz 6 (.alloc 66 (zz [(1, .s []),(1, .nils)])),on (.st 2 (.t 6) (.t 23)),mt 7 24] (.seq (.blk 0 (sf [mt 26 7,oz 27 (.un .not (.t 26)),mt 25 27] (.cond (.t 25) (sf [oz 28 (.bld Ae.zc []),on (.st 53 (.t 2) (.t 28)),oz 3 (.mv (ki 12))] .ret) (sf [mt 30 4,oz 31 (.len (.t 30)),oz 32 (.bin .sub (.t 31) (ki 1)),oz 33 (.fa 1 (.t 6)),oz 34 (.ld false 1 (.t 33)),oz 35 (.len (.t 34)),oz 36 (.bin .neq (.t 32) (.t 35)),mt 29 36] (.cond (.t 29) (sf [oz 37 (.bld Ae.zc []),on (.st 53 (.t 2) (.t 37)),oz 3 (.mv (ki 5))] .ret) .skip))))) (.seq (sf [oz 38 (.fa 1 (.t 6)),oz 39 (.ld false 1 (.t 38)),oz 40 (.len (.t 39)),oz 41 (.mv (ki 0))] (.blk 1 (.loop [2,4,5,39,40,41] VS))) (sf [oz 59 (.ld true 53 (.t 5)),on (.st 53 (.t 2) (.t 59)),oz 3 (.mv (ki 0))] .ret)))))))⟩
noncomputable def T3:CI:=⟨false,1,61,[.tmp 2],(sf [oz 1 (.box 32 53 (.t 0)),oz 2 (.mv (.k (.s [])))] (sf [oz 4 (.fa 20 (.t 1)),oz 5 (.ld true 32 (.t 4)),oz 6 (.call Mt [(.t 5)]),oz 7 (.call IJ [(.t 6)]),mt 3 7] (.seq (sf [oz 8 (.fa 0 (.t 1)),oz 9 (.ld false 1 (.t 8))] (.blk 0 (sf [oz 11 (.bin .eql (.t 9) (ki 1)),mt 10 11] (.cond (.t 10) (sf [oz 12 (.fa 1 (.t 1)),oz 13 (.ld false 1 (.t 12)),oz 14 (.call GC [(.t 13)]),oz 15 (.bin .add (.k (.s [114,101,112,108,121,32])) (.t 14)),mt 2 15] .ret) (sf [oz 17 (.bin .eql (.t 9) (ki 2)),mt 16 17] (.cond (.t 16) (sr [oz 18 (.fa 2 (.t 1)),oz 19 (.ld true 18 (.t 18)),oz 20 (.call L5 [(.t 19)]),oz 21 (.bin .add (.k (.s [115,101,110,100,32])) (.t 20)),oz 22 (.bin .add (.t 21) (.k (.s [32]))),mt 23 3,oz 24 (.bin .add (.t 22) (.t 23)),oz 25 (.bin .add (.t 24) (.k (.s [32]))),oz 26 (.fa 1 (.t 1)),oz 27 (.ld false 1 (.t 26)),oz 28 (.call GC [(.t 27)]),oz 29 (.bin .add (.t 25) (.t 28)),mt 2 29] .ret) (sf [oz 31 (.bin .eql (.t 9) (ki 3)),mt 30 31] (.cond (.t 30) (sf [mt 32 3,oz 33 (.bin .add (.k (.s [100,101,108,105,118,101,114,32])) (.t 32)),oz 34 (.bin .add (.t 33) (.k (.s [32]))),oz 35 (.fa 1 (.t 1)),oz 36 (.ld false 1 (.t 35)),oz 37 (.call GC [(.t 36)]),oz 38 (.bin .add (.t 34) (.t 37)),mt 2 38] .ret) (sf [oz 40 (.bin .eql (.t 9) (ki 4)),mt 39 40] (.cond (.t 39) (sf [oz 41 (.fa 1 (.t 1)),oz 42 (.ld false 1 (.t 41)),oz 43 (.call GC [(.t 42)]),oz 44 (.bin .add (.k (.s [114,101,102,117,115,101,32])) (.t 43)),mt 2 44] .ret) (sf [oz 46 (.bin .eql (.t 9) (ki 5)),mt 45 46]
    (.cond (.t 45) (sf [oz 47 (.fa 52 (.t 1)),oz 48 (.ld false 1 (.t 47)),oz 49 (.cvi .u64 (.t 48)),oz 50 (.call Fl [(.t 49)]),oz 51 (.bin .add (.k (.s [100,114,111,112,32])) (.t 50)),mt 2 51] .ret) .skip)))))))))))) (sr [oz 52 (.fa 2 (.t 1)),oz 53 (.ld true 18 (.t 52)),oz 54 (.call L5 [(.t 53)]),oz 55 (.bin .add (.k (.s [112,97,115,115,32])) (.t 54)),oz 56 (.bin .add (.t 55) (.k (.s [32]))),oz 57 (.fa 1 (.t 1)),oz 58 (.ld false 1 (.t 57)),oz 59 (.call GC [(.t 58)]),oz 60 (.bin .add (.t 56) (.t 59)),mt 2 60] .ret))))⟩
noncomputable def T4:CI:=⟨false,2,38,[.tmp 4],(sf [oz 2 (.box 32 53 (.t 0)),oz 3 (.box 32 53 (.t 1)),oz 4 (.mv (.k (.b false)))] (sf [oz 5 (.fa 0 (.t 2)),oz 6 (.ld false 1 (.t 5)),oz 7 (.fa 0 (.t 3)),oz 8 (.ld false 1 (.t 7)),oz 9 (.bin .eql (.t 6) (.t 8)),mt 10 9,⟨some 11,some (10,true), .fa 1 (.t 2)⟩,⟨some 12,some (10,true), .ld false 1 (.t 11)⟩,⟨some 13,some (10,true), .fa 1 (.t 3)⟩,⟨some 14,some (10,true), .ld false 1 (.t 13)⟩,⟨some 15,some (10,true), .call N7 [(.t 12),(.t 14)]⟩,oz 16 (.pick (.t 10) (.t 15) (.k (.b false))),mt 17 16,⟨some 18,some (17,true), .fa 2 (.t 2)⟩,⟨some 19,some (17,true), .ld true 18 (.t 18)⟩,⟨some 20,some (17,true), .fa 2 (.t 3)⟩,⟨some 21,some (17,true), .ld true 18 (.t 20)⟩,⟨some 22,some (17,true), .eq false (.agg (kk [(1, .i .i64),(16, .i .u8),(1, .i .i64)])) (.t 19) (.t 21)⟩,oz 23 (.pick (.t 17) (.t 22) (.k (.b false))),mt 24 23,⟨some 25,some (24,true), .fa 20 (.t 2)⟩,⟨some 26,some (24,true), .ld true 32 (.t 25)⟩,⟨some 27,some (24,true), .fa 20 (.t 3)⟩,⟨some 28,some (24,true), .ld true 32 (.t 27)⟩,⟨some 29,some (24,true), .eq false (.agg (kk [(32, .i .u8)])) (.t 26) (.t 28)⟩,oz 30 (.pick (.t 24) (.t 29) (.k (.b false))),mt 31 30,⟨some 32,some (31,true), .fa 52 (.t 2)⟩,⟨some 33,some (31,true), .ld false 1 (.t 32)⟩,⟨some 34,some (31,true), .fa 52 (.t 3)⟩,⟨some 35,some (31,true), .ld false 1 (.t 34)⟩,⟨some 36,some (31,true), .bin .eql (.t 33) (.t 35)⟩,oz 37 (.pick (.t 31) (.t 36) (.k (.b false))),mt 4 37] .ret))⟩
noncomputable def ZX:AC:=(.seq (sf [mt 16 8,oz 17 (.bin .leq (.t 16) (ki 6))] (.cond (.t 17) .skip (.exit 0))) (.seq (.blk 1 (sr [mt 20 5,mt 21 8,oz 22 (.ias 1 (.t 20) (.t 21)),oz 23 (.ld false 1 (.t 22)),mt 24 4,oz 25 (.ias 1 (.t 24) (ki 0)),oz 26 (.ld false 1 (.t 25)),oz 27 (.bin .eql (.t 23) (.t 26))] (.cond (.t 27) (rg false [mt 28 8,oz 29 (.fa 0 (.t 7)),on (.st 1 (.t 29) (.t 28))]) .skip))) (rg false [mt 18 8,oz 19 (.bin .add (.t 18) (ki 1)),mt 8 19])))
noncomputable def ZW:AC:=(.seq (sf [mt 45 9,mt 46 4,oz 47 (.len (.t 46)),oz 48 (.bin .lss (.t 45) (.t 47))] (.cond (.t 48) .skip (.exit 2))) (.seq (.blk 3 (.seq (.regd [oz 52 (.ld true 53 (.t 7)),mt 53 6,oz 54 (.fa 0 (.t 7)),oz 55 (.ld false 1 (.t 54)),oz 56 (.ias 1 (.t 53) (.t 55)),oz 57 (.ld false 1 (.t 56)),mt 58 9,oz 59 (.bin .sub (.t 58) (ki 1)),oz 60 (.ixs (.t 57) (.t 59)),mt 61 4,mt 62 9,oz 63 (.ias 1 (.t 61) (.t 62)),oz 64 (.ld false 1 (.t 63)),oz 65 (.call N4 [(.t 52),(.t 60),(.t 64)]),mt 51 65,oz 66 (.ext (.t 51) 0),oz 67 (.ext (.t 51) 1),oz 10 (.alloc 32 Ae.zc),on (.st 53 (.t 10) (.t 66)),mt 11 67] [some (0,1),some (0,1),some (0,1),some (0,1),some (0,1),some (0,1),some (0,1),some (0,1),some (0,1),some (0,1),some (0,1),some (0,1),some (0,1),some (0,1),some (0,1),some (0,1),some (0,2),none,none,some (2,2)]) (.seq (sf [mt 68 11,oz 69 (.bin .neq (.t 68) (ki 0))] (.cond (.t 69) (sf [oz 70 (.bld Ae.zc []),mt 71 11,on (.st 53 (.t 2) (.t 70)),mt 3 71] .ret) .skip)) (rg false [oz 72 (.ld true 53 (.t 10)),on (.st 53 (.t 7) (.t 72))])))) (rg false [mt 49 9,oz 50 (.bin .add (.t 49) (ki 1)),mt 9 50])))
noncomputable def Ri:CI:=⟨false,1,74,[.cell true 53 2, .tmp 3],(sf [oz 2 (.alloc 32 Ae.zc),oz 3 (.mv (ki 0))] (sf [mt 12 0,oz 13 (.call E9 [(.t 12),(.k (.i .u8 32))]),mt 4 13] (sf [oz 14 (.bls 9 1 (aq 7 Ak.zc) [(0,(.k (.s []))),(1,(.k (.s [114,101,112,108,121]))),(2,(.k (.s [115,101,110,100]))),(3,(.k (.s [100,101,108,105,118,101,114]))),(4,(.k (.s [114,101,102,117,115,101]))),(5,(.k (.s [100,114,111,112]))),(6,(.k (.s [112,97,115,115])))]),mt 5 14] (sf [oz 15 (.bls 9 1 (aq 7 Ak.zc) [(0,(.k (.s []))),(1,(.k (.s [98]))),(2,(.k (.s [116,107,98]))),(3,(.k (.s [107,98]))),(4,(.k (.s [98]))),(5,(.k (.s [119]))),(6,(.k (.s [116,98])))]),mt 6 15] (sf [oz 7 (.alloc 32 Ae.zc)] (.seq (sf [oz 8 (.mv (ki 1))] (.blk 0 (.loop [2,4,5,6,7,8] ZX))) (.seq (sf [oz 30 (.fa 0 (.t 7)),oz 31 (.ld false 1 (.t 30)),oz 32 (.bin .eql (.t 31) (ki 0))] (.cond (.t 32) (sf [oz 33 (.ld true 53 (.t 7)),on (.st 53 (.t 2) (.t 33)),oz 3 (.mv (ki 12))] .ret) .skip)) (.seq (sf [mt 34 4,oz 35 (.len (.t 34)),mt 36 6,oz 37 (.fa 0 (.t 7)),oz 38 (.ld false 1 (.t 37)),oz 39 (.ias 1 (.t 36) (.t 38)),oz 40 (.ld false 1 (.t 39)),oz 41 (.lens (.t 40)),oz 42 (.bin .add (.t 41) (ki 1)),oz 43 (.bin .neq (.t 35) (.t 42))] (.cond (.t 43) (sf [oz 44 (.bld Ae.zc []),on (.st 53 (.t 2) (.t 44)),oz 3 (.mv (ki 5))] .ret) .skip)) (.seq (sf [oz 9 (.mv (ki 1))] (.blk 2 (.loop [2,4,6,7,9] ZW))) (sf [oz 73 (.ld true 53 (.t 7)),on (.st 53 (.t 2) (.t 73)),oz 3 (.mv (ki 0))] .ret))))))))))⟩
noncomputable def VQ:AC:=(sf [oz 12 (.bin .lss (.t 11) (.t 10))] (.seq (.cond (.t 12) .skip (.exit 0)) (.seq (.blk 1 (sf [oz 13 (.ias 53 (.t 9) (.t 11)),oz 14 (.ld true 53 (.t 13)),oz 6 (.alloc 32 Ae.zc),on (.st 53 (.t 6) (.t 14))] (sf [oz 16 (.ld true 53 (.t 6)),oz 17 (.call IG [(.t 16)]),mt 15 17,oz 18 (.ext (.t 15) 0),oz 19 (.ext (.t 15) 1),mt 7 18,mt 8 19] (.seq (sf [mt 20 8,oz 21 (.bin .neq (.t 20) (ki 0))] (.cond (.t 21) (sf [mt 22 8,oz 2 (.mv (.k (.s []))),mt 3 22] .ret) .skip)) (rg false [mt 23 4,mt 24 7,oz 25 (.bll 1 (aq 1 Ak.zc) [(0,(.t 24))]),oz 26 (.app 9 1 16 (.t 23) (.t 25)),mt 4 26]))))) (rg false [oz 27 (.bin .add (.t 11) (ki 1)),mt 11 27]))))
noncomputable def NV:CI:=⟨false,1,30,[.tmp 2, .tmp 3],(sf [oz 2 (.mv (.k (.s []))),oz 3 (.mv (ki 0))] (sf [oz 4 (.mv (.k (.nils)))] (.seq (sf [mt 9 0,oz 10 (.len (.t 9)),oz 11 (.mv (ki 0))] (.blk 0 (.loop [4,9,10,11] VQ))) (sf [mt 28 4,oz 29 (.call Lf [(.t 28)]),mt 2 29,oz 3 (.mv (ki 0))] .ret))))⟩
noncomputable def XE:AC:=(sf [oz 22 (.bin .lss (.t 21) (.t 20))] (.seq (.cond (.t 22) .skip (.exit 0)) (.seq (.blk 1 (sf [mt 23 21,oz 24 (.ias 1 (.t 19) (.t 21)),oz 25 (.ld false 1 (.t 24)),mt 8 23,mt 9 25] (sf [mt 27 9,oz 28 (.call JK [(.t 27)]),mt 26 28,oz 29 (.ext (.t 26) 0),oz 30 (.ext (.t 26) 1),oz 10 (.alloc 32 Ae.zc),on (.st 53 (.t 10) (.t 29)),mt 11 30] (.seq (sf [mt 31 11,oz 32 (.bin .neq (.t 31) (ki 0))] (.cond (.t 32) (sf [mt 33 8,oz 34 (.bin .add (.t 33) (ki 1)),mt 35 11,oz 2 (.mv (.k (.nils))),mt 3 34,mt 4 35] .ret) .skip)) (rg false [mt 36 7,oz 37 (.ld true 53 (.t 10)),oz 38 (.bll 53 (aq 1 Ae.zc) [(0,(.t 37))]),oz 39 (.app 32 53 104 (.t 36) (.t 38)),mt 7 39]))))) (rg false [oz 40 (.bin .add (.t 21) (ki 1)),mt 21 40]))))
noncomputable def P7:CI:=⟨false,1,42,[.tmp 2, .tmp 3, .tmp 4],(sf [oz 2 (.mv (.k (.nils))),oz 3 (.mv (ki 0)),oz 4 (.mv (ki 0))] (sf [mt 13 0,oz 14 (.call JQ [(.t 13)]),mt 12 14,oz 15 (.ext (.t 12) 0),oz 16 (.ext (.t 12) 1),mt 5 15,mt 6 16] (.seq (sf [mt 17 6,oz 18 (.un .not (.t 17))] (.cond (.t 18) (sf [oz 2 (.mv (.k (.nils))),oz 3 (.mv (ki 0)),oz 4 (.mv (ki 5))] .ret) .skip)) (sf [oz 7 (.mv (.k (.nils)))] (.seq (sf [mt 19 5,oz 20 (.len (.t 19)),oz 21 (.mv (ki 0))] (.blk 0 (.loop [7,19,20,21] XE))) (sf [mt 41 7,mt 2 41,oz 3 (.mv (ki 0)),oz 4 (.mv (ki 0))] .ret))))))⟩
noncomputable def Rr:CI:=⟨false,1,19,[.tmp 2],(sf [oz 2 (.mv (.k (.nils)))] (sf [mt 4 0,oz 5 (.call E9 [(.t 4),(.k (.i .u8 10))]),mt 3 5] (.seq (sf [mt 6 3,mt 7 3,oz 8 (.len (.t 7)),oz 9 (.bin .sub (.t 8) (ki 1)),oz 10 (.ias 1 (.t 6) (.t 9)),oz 11 (.ld false 1 (.t 10)),oz 12 (.bin .eql (.t 11) (.k (.s [])))] (.cond (.t 12) (sf [mt 13 3,mt 14 3,oz 15 (.len (.t 14)),oz 16 (.bin .sub (.t 15) (ki 1)),oz 17 (.sll 1 (.t 13) none (some (.t 16))),mt 2 17] .ret) .skip)) (sf [mt 18 3,mt 2 18] .ret))))⟩
noncomputable def P6:CI:=⟨false,2,38,[.tmp 4],(sf [oz 2 (.box 32 53 (.t 0)),oz 3 (.box 32 53 (.t 1)),oz 4 (.mv (.k (.b false)))] (sf [oz 5 (.fa 0 (.t 2)),oz 6 (.ld false 1 (.t 5)),oz 7 (.fa 0 (.t 3)),oz 8 (.ld false 1 (.t 7)),oz 9 (.bin .eql (.t 6) (.t 8)),mt 10 9,⟨some 11,some (10,true), .fa 1 (.t 2)⟩,⟨some 12,some (10,true), .ld false 1 (.t 11)⟩,⟨some 13,some (10,true), .fa 1 (.t 3)⟩,⟨some 14,some (10,true), .ld false 1 (.t 13)⟩,⟨some 15,some (10,true), .call JV [(.t 12),(.t 14)]⟩,oz 16 (.pick (.t 10) (.t 15) (.k (.b false))),mt 17 16,⟨some 18,some (17,true), .fa 2 (.t 2)⟩,⟨some 19,some (17,true), .ld true 18 (.t 18)⟩,⟨some 20,some (17,true), .fa 2 (.t 3)⟩,⟨some 21,some (17,true), .ld true 18 (.t 20)⟩,⟨some 22,some (17,true), .eq false (.agg (kk [(1, .i .i64),(16, .i .u8),(1, .i .i64)])) (.t 19) (.t 21)⟩,oz 23 (.pick (.t 17) (.t 22) (.k (.b false))),mt 24 23,⟨some 25,some (24,true), .fa 20 (.t 2)⟩,⟨some 26,some (24,true), .ld true 32 (.t 25)⟩,⟨some 27,some (24,true), .fa 20 (.t 3)⟩,⟨some 28,some (24,true), .ld true 32 (.t 27)⟩,⟨some 29,some (24,true), .eq false (.agg (kk [(32, .i .u8)])) (.t 26) (.t 28)⟩,oz 30 (.pick (.t 24) (.t 29) (.k (.b false))),mt 31 30,⟨some 32,some (31,true), .fa 52 (.t 2)⟩,⟨some 33,some (31,true), .ld false 1 (.t 32)⟩,⟨some 34,some (31,true), .fa 52 (.t 3)⟩,⟨some 35,some (31,true), .ld false 1 (.t 34)⟩,⟨some 36,some (31,true), .bin .eql (.t 33) (.t 35)⟩,oz 37 (.pick (.t 31) (.t 36) (.k (.b false))),mt 4 37] .ret))⟩
noncomputable def Rj:CI:=⟨false,1,16,[.tmp 2],(sf [oz 1 (.box 27 18 (.t 0)),oz 2 (.mv (.k (.b false)))] (sf [oz 3 (.fa 0 (.t 1)),oz 4 (.ld true 17 (.t 3)),oz 5 (.call JO [(.t 4)]),mt 6 5,⟨some 7,some (6,true), .fa 17 (.t 1)⟩,⟨some 8,some (6,true), .ld false 1 (.t 7)⟩,⟨some 9,some (6,true), .bin .geq (.t 8) (ki 1)⟩,oz 10 (.pick (.t 6) (.t 9) (.k (.b false))),mt 11 10,⟨some 12,some (11,true), .fa 17 (.t 1)⟩,⟨some 13,some (11,true), .ld false 1 (.t 12)⟩,⟨some 14,some (11,true), .bin .leq (.t 13) (ki 65535)⟩,oz 15 (.pick (.t 11) (.t 14) (.k (.b false))),mt 2 15] .ret))⟩
noncomputable def Qf:CI:=⟨true,1,40,[.cell true 2 2, .tmp 3],(sf [oz 2 (.alloc 66 (zz [(1, .s []),(1, .nils)])),oz 3 (.mv (.k (.b false)))] (.seq (sf [mt 4 0] (.blk 0 (sf [oz 6 (.bin .eql (.t 4) (ki 1)),mt 5 6] (.cond (.t 5) (sf [oz 7 (.call Gf []),oz 8 (.bls 72 3 (aq 1 (zz [(3, .nilf)])) [(0,(.t 7))]),oz 9 (.bld (zz [(1, .s []),(1, .nils)]) [(0,1,(.k (.s [114,101,112,108,121]))),(1,1,(.t 8))]),on (.st 2 (.t 2) (.t 9)),oz 3 (.mv (.k (.b true)))] .ret) (sf [oz 11 (.bin .eql (.t 4) (ki 2)),mt 10 11] (.cond (.t 10) (sf [oz 12 (.call N3 []),oz 13 (.call Mn []),oz 14 (.call Gf []),oz 15 (.bls 72 3 (aq 3 (zz [(3, .nilf)])) [(0,(.t 12)),(1,(.t 13)),(2,(.t 14))]),oz 16 (.bld (zz [(1, .s []),(1, .nils)]) [(0,1,(.k (.s [115,101,110,100]))),(1,1,(.t 15))]),on (.st 2 (.t 2) (.t 16)),oz 3 (.mv (.k (.b true)))] .ret) (sf [oz 18 (.bin .eql (.t 4) (ki 3)),mt 17 18] (.cond (.t 17) (sf [oz 19 (.call Mn []),oz 20 (.call Gf []),oz 21 (.bls 72 3 (aq 2 (zz [(3, .nilf)])) [(0,(.t 19)),(1,(.t 20))]),oz 22 (.bld (zz [(1, .s []),(1, .nils)]) [(0,1,(.k (.s [100,101,108,105,118,101,114]))),(1,1,(.t 21))]),on (.st 2 (.t 2) (.t 22)),oz 3 (.mv (.k (.b true)))] .ret) (sf [oz 24 (.bin .eql (.t 4) (ki 4)),mt 23 24] (.cond (.t 23) (sf [oz 25 (.call Gf []),oz 26 (.bls 72 3 (aq 1 (zz [(3, .nilf)])) [(0,(.t 25))]),oz 27 (.bld (zz [(1, .s []),(1, .nils)]) [(0,1,(.k (.s [114,101,102,117,115,101]))),(1,1,(.t 26))]),on (.st 2 (.t 2) (.t 27)),oz 3 (.mv (.k (.b true)))] .ret)
    (sf [oz 29 (.bin .eql (.t 4) (ki 5)),mt 28 29] (.cond (.t 28) (sf [oz 30 (.call Ps []),oz 31 (.bls 72 3 (aq 1 (zz [(3, .nilf)])) [(0,(.t 30))]),oz 32 (.bld (zz [(1, .s []),(1, .nils)]) [(0,1,(.k (.s [100,114,111,112]))),(1,1,(.t 31))]),on (.st 2 (.t 2) (.t 32)),oz 3 (.mv (.k (.b true)))] .ret) (sf [oz 34 (.bin .eql (.t 4) (ki 6)),mt 33 34] (.cond (.t 33) (sf [oz 35 (.call N3 []),oz 36 (.call Gf []),oz 37 (.bls 72 3 (aq 2 (zz [(3, .nilf)])) [(0,(.t 35)),(1,(.t 36))]),oz 38 (.bld (zz [(1, .s []),(1, .nils)]) [(0,1,(.k (.s [112,97,115,115]))),(1,1,(.t 37))]),on (.st 2 (.t 2) (.t 38)),oz 3 (.mv (.k (.b true)))] .ret) .skip)))))))))))))) (sf [oz 39 (.bld (zz [(1, .s []),(1, .nils)]) []),on (.st 2 (.t 2) (.t 39)),oz 3 (.mv (.k (.b false)))] .ret)))⟩
noncomputable def UF:AC:=(sf [oz 42 (.bin .lss (.t 41) (.t 40))] (.seq (.cond (.t 42) .skip (.exit 1)) (.seq (.blk 2 (sf [oz 43 (.ias 1 (.t 39) (.t 41)),oz 44 (.ld false 1 (.t 43)),mt 7 44] (.seq (sf [mt 45 7,oz 46 (.lens (.t 45)),mt 47 5,oz 48 (.bin .sub (ki 9223372036854775807) (.t 47)),oz 49 (.bin .gtr (.t 46) (.t 48))] (.cond (.t 49) (rg false [oz 50 (.mkif 9 (.k (.s [115,116,114,105,110,103,115,58,32,74,111,105,110,32,111,117,116,112,117,116,32,108,101,110,103,116,104,32,111,118,101,114,102,108,111,119]))),on (.die)]) .skip)) (rg false [mt 51 5,mt 52 7,oz 53 (.lens (.t 52)),oz 54 (.bin .add (.t 51) (.t 53)),mt 5 54])))) (rg false [oz 55 (.bin .add (.t 41) (ki 1)),mt 41 55]))))
noncomputable def UE:AC:=(sf [oz 66 (.bin .lss (.t 65) (.t 64))] (.seq (.cond (.t 66) .skip (.exit 3)) (.seq (.blk 4 (sf [oz 67 (.ias 1 (.t 63) (.t 65)),oz 68 (.ld false 1 (.t 67)),mt 10 68] (sf [mt 69 1,oz 70 (.call BH [(.t 8),(.t 69)])] (rg false [mt 71 10,oz 72 (.call BH [(.t 8),(.t 71)])])))) (rg false [oz 73 (.bin .add (.t 65) (ki 1)),mt 65 73]))))
noncomputable def MW:CI:=⟨false,2,75,[.tmp 4],(sf [oz 4 (.mv (.k (.s [])))] (.seq (sf [mt 11 0,oz 12 (.len (.t 11))] (.blk 0 (sf [oz 14 (.bin .eql (.t 12) (ki 0)),mt 13 14] (.cond (.t 13) (sf [oz 4 (.mv (.k (.s [])))] .ret) (sf [oz 16 (.bin .eql (.t 12) (ki 1)),mt 15 16] (.cond (.t 15) (sf [mt 17 0,oz 18 (.ias 1 (.t 17) (ki 0)),oz 19 (.ld false 1 (.t 18)),mt 4 19] .ret) .skip)))))) (sf [oz 5 (.mv (ki 0))] (.seq (sf [mt 20 1,oz 21 (.lens (.t 20)),oz 22 (.bin .gtr (.t 21) (ki 0))] (.cond (.t 22) (.seq (sf [mt 23 1,oz 24 (.lens (.t 23)),mt 25 0,oz 26 (.len (.t 25)),oz 27 (.bin .sub (.t 26) (ki 1)),oz 28 (.bin .quo (ki 9223372036854775807) (.t 27)),oz 29 (.bin .geq (.t 24) (.t 28))] (.cond (.t 29) (rg false [oz 30 (.mkif 9 (.k (.s [115,116,114,105,110,103,115,58,32,74,111,105,110,32,111,117,116,112,117,116,32,108,101,110,103,116,104,32,111,118,101,114,102,108,111,119]))),on (.die)]) .skip)) (rg false [mt 31 5,mt 32 1,oz 33 (.lens (.t 32)),mt 34 0,oz 35 (.len (.t 34)),oz 36 (.bin .sub (.t 35) (ki 1)),oz 37 (.bin .mul (.t 33) (.t 36)),oz 38 (.bin .add (.t 31) (.t 37)),mt 5 38])) .skip)) (.seq (sf [mt 39 0,oz 40 (.len (.t 39)),oz 41 (.mv (ki 0))] (.blk 1 (.loop [0,1,5,39,40,41] UF))) (sf [oz 8 (.alloc 107 (zz [(1, .nilp),(1, .nils)]))] (sf [mt 56 5,oz 57 (.call FF [(.t 8),(.t 56)])] (sf [mt 58 0,oz 59 (.ias 1 (.t 58) (ki 0)),oz 60 (.ld false 1 (.t 59)),oz 61 (.call BH [(.t 8),(.t 60)])] (.seq (sf [mt 62 0,oz 63 (.sll 1 (.t 62) (some (ki 1)) none),oz 64 (.len (.t 63)),oz 65 (.mv (ki 0))]
 (.blk 3 (.loop [1,8,63,64,65] UE))) (sf [oz 74 (.call Df [(.t 8)]),mt 4 74] .ret))))))))))⟩
noncomputable def VX:AC:=(.blk 1 (sf [mt 10 0,mt 11 1,oz 12 (.call GX [(.t 10),(.t 11)]),mt 9 12,oz 13 (.ext (.t 9) 0),oz 14 (.ext (.t 9) 1),oz 15 (.ext (.t 9) 2),mt 6 13,mt 7 14,mt 8 15] (sf [mt 16 5,mt 17 6,oz 18 (.bll 1 (aq 1 Ak.zc) [(0,(.t 17))]),oz 19 (.app 9 1 16 (.t 16) (.t 18)),mt 5 19] (.seq (sf [mt 20 8,oz 21 (.un .not (.t 20))] (.cond (.t 21) (sf [mt 22 5,mt 4 22] .ret) .skip)) (rg false [mt 23 7,mt 0 23])))))
noncomputable def Oc:CI:=⟨false,2,24,[.tmp 4],(sf [oz 4 (.mv (.k (.nils)))] (sf [oz 5 (.mv (.k (.nils)))] (.blk 0 (.loop [0,1,5] VX))))⟩
noncomputable def XC:AC:=(.seq (sf [mt 6 3,oz 7 (.bin .leq (.t 6) (ki 6))] (.cond (.t 7) .skip (.exit 0))) (.seq (.blk 1 (sf [mt 11 3,oz 12 (.call Fq [(.t 11)]),mt 10 12,oz 13 (.ext (.t 10) 0),oz 14 (.ext (.t 10) 1),oz 4 (.alloc 66 (zz [(1, .s []),(1, .nils)])),on (.st 2 (.t 4) (.t 13)),mt 5 14] (sf [oz 15 (.fa 0 (.t 4)),oz 16 (.ld false 1 (.t 15)),mt 17 0,oz 18 (.bin .eql (.t 16) (.t 17))] (.cond (.t 18) (sf [mt 19 3,mt 2 19] .ret) .skip)))) (rg false [mt 8 3,oz 9 (.bin .add (.t 8) (ki 1)),mt 3 9])))
noncomputable def P4:CI:=⟨false,1,20,[.tmp 2],(sf [oz 2 (.mv (ki 0))] (.seq (sf [oz 3 (.mv (ki 1))] (.blk 0 (.loop [0,3] XC))) (sf [oz 2 (.mv (ki 0))] .ret)))⟩
noncomputable def XG:AC:=(.seq (sf [mt 5 4,mt 6 0,oz 7 (.len (.t 6)),oz 8 (.bin .lss (.t 5) (.t 7))] (.cond (.t 8) .skip (.exit 0))) (.seq (.blk 1 (rg true [mt 11 3,mt 12 0,mt 13 4,oz 14 (.ias 1 (.t 12) (.t 13)),oz 15 (.ld false 1 (.t 14)),oz 16 (.cvi .i64 (.t 15)),oz 17 (.bin .quo (.t 16) (ki 16)),oz 18 (.call Fe [(.t 17)]),oz 19 (.bin .add (.t 11) (.t 18)),mt 20 0,mt 21 4,oz 22 (.ias 1 (.t 20) (.t 21)),oz 23 (.ld false 1 (.t 22)),oz 24 (.cvi .i64 (.t 23)),oz 25 (.bin .rem (.t 24) (ki 16)),oz 26 (.call Fe [(.t 25)]),oz 27 (.bin .add (.t 19) (.t 26)),mt 3 27])) (rg false [mt 9 4,oz 10 (.bin .add (.t 9) (ki 1)),mt 4 10])))
noncomputable def P9:CI:=⟨false,1,29,[.tmp 2],(sf [oz 2 (.mv (.k (.s [])))] (sf [oz 3 (.mv (.k (.s [])))] (.seq (sf [oz 4 (.mv (ki 0))] (.blk 0 (.loop [0,3,4] XG))) (sf [mt 28 3,mt 2 28] .ret))))⟩
noncomputable def aF:AC:=(.seq (sf [mt 5 4,oz 6 (.bin .lss (.t 5) (ki 32))] (.cond (.t 6) .skip (.exit 0))) (.seq (.blk 1 (rg false [mt 9 3,mt 10 4,oz 11 (.iaa 32 1 (.t 1) (.t 10)),oz 12 (.ld false 1 (.t 11)),oz 13 (.bll 1 (aq 1 a7.zc) [(0,(.t 12))]),oz 14 (.app 5 1 1 (.t 9) (.t 13)),mt 3 14])) (rg false [mt 7 4,oz 8 (.bin .add (.t 7) (ki 1)),mt 4 8])))
noncomputable def Rp:CI:=⟨false,1,16,[.tmp 2],(sf [oz 1 (.box 29 32 (.t 0)),oz 2 (.mv (.k (.nils)))] (sf [oz 3 (.mv (.k (.nils)))] (.seq (sf [oz 4 (.mv (ki 0))] (.blk 0 (.loop [1,3,4] aF))) (sf [mt 15 3,mt 2 15] .ret))))⟩
noncomputable def T1:CI:=⟨false,1,8,[.tmp 2],(sf [oz 2 (.mv (.k (.s [])))] (.seq (sf [mt 3 0,oz 4 (.len (.t 3)),oz 5 (.bin .eql (.t 4) (ki 0))] (.cond (.t 5) (sf [oz 2 (.mv (.k (.s [45])))] .ret) .skip)) (sf [mt 6 0,oz 7 (.call IJ [(.t 6)]),mt 2 7] .ret)))⟩
noncomputable def T5:CI:=⟨false,1,28,[.tmp 2],(sf [oz 1 (.box 27 18 (.t 0)),oz 2 (.mv (.k (.s [])))] (.seq (sf [oz 4 (.ld true 18 (.t 1)),oz 5 (.call JN [(.t 4)]),oz 6 (.un .not (.t 5))] (.cond (.t 6) (sf [oz 2 (.mv (.k (.s [])))] .ret) .skip)) (sf [oz 7 (.fa 17 (.t 1)),oz 8 (.ld false 1 (.t 7)),oz 9 (.cvi .u64 (.t 8)),oz 10 (.call Fl [(.t 9)]),oz 11 (.bin .add (.k (.s [58])) (.t 10)),mt 3 11] (.seq (sf [oz 12 (.fa 0 (.t 1)),oz 13 (.fa 0 (.t 12)),oz 14 (.ld false 1 (.t 13)),oz 15 (.bin .eql (.t 14) (ki 6))] (.cond (.t 15) (sf [oz 16 (.fa 0 (.t 1)),oz 17 (.ld true 17 (.t 16)),oz 18 (.call L6 [(.t 17)]),oz 19 (.bin .add (.k (.s [91])) (.t 18)),oz 20 (.bin .add (.t 19) (.k (.s [93]))),mt 21 3,oz 22 (.bin .add (.t 20) (.t 21)),mt 2 22] .ret) .skip)) (sf [oz 23 (.fa 0 (.t 1)),oz 24 (.ld true 17 (.t 23)),oz 25 (.call L6 [(.t 24)]),mt 26 3,oz 27 (.bin .add (.t 25) (.t 26)),mt 2 27] .ret)))))⟩
noncomputable def TB:CI:=⟨false,1,18,[.tmp 2],(sf [oz 2 (.mv (.k (.s [])))] (sf [mt 4 0,oz 5 (.bin .rem (.t 4) (.k (.i .u64 10))),oz 6 (.bin .add (.k (.i .u64 48)) (.t 5)),oz 7 (.cvi .u8 (.t 6)),oz 8 (.bls 5 1 (aq 1 a7.zc) [(0,(.t 7))]),oz 9 (.cvs (.t 8)),mt 3 9] (.seq (sf [mt 10 0,oz 11 (.bin .lss (.t 10) (.k (.i .u64 10)))] (.cond (.t 11) (sf [mt 12 3,mt 2 12] .ret) .skip)) (sf [mt 13 0,oz 14 (.bin .quo (.t 13) (.k (.i .u64 10))),oz 15 (.call Fl [(.t 14)]),mt 16 3,oz 17 (.bin .add (.t 15) (.t 16)),mt 2 17] .ret))))⟩
noncomputable def dF:AC:=(.seq (sf [mt 11 5,mt 12 0,oz 13 (.len (.t 12)),oz 14 (.bin .lss (.t 11) (.t 13))] (.cond (.t 14) .skip (.exit 0))) (.seq (.blk 1 (sr [mt 17 0,mt 18 5,oz 19 (.ias 1 (.t 17) (.t 18)),oz 20 (.ld false 1 (.t 19)),mt 21 1,mt 22 5,oz 23 (.ias 1 (.t 21) (.t 22)),oz 24 (.ld false 1 (.t 23)),oz 25 (.bin .neq (.t 20) (.t 24))] (.cond (.t 25) (sf [oz 4 (.mv (.k (.b false)))] .ret) .skip))) (rg false [mt 15 5,oz 16 (.bin .add (.t 15) (ki 1)),mt 5 16])))
noncomputable def TD:CI:=⟨false,2,26,[.tmp 4],(sf [oz 4 (.mv (.k (.b false)))] (.seq (sf [mt 6 0,oz 7 (.len (.t 6)),mt 8 1,oz 9 (.len (.t 8)),oz 10 (.bin .neq (.t 7) (.t 9))] (.cond (.t 10) (sf [oz 4 (.mv (.k (.b false)))] .ret) .skip)) (.seq (sf [oz 5 (.mv (ki 0))] (.blk 0 (.loop [0,1,5] dF))) (sf [oz 4 (.mv (.k (.b true)))] .ret))))⟩
noncomputable def aG:AC:=(.seq (sf [mt 8 7,mt 9 0,oz 10 (.lens (.t 9)),oz 11 (.bin .lss (.t 8) (.t 10))] (.cond (.t 11) .skip (.exit 0))) (.seq (.blk 1 (sf [mt 14 0,mt 15 7,oz 16 (.ixs (.t 14) (.t 15)),mt 17 1,oz 18 (.bin .eql (.t 16) (.t 17))] (.cond (.t 18) (sf [mt 19 6,mt 20 0,mt 21 5,mt 22 7,oz 23 (.sls (.t 20) (some (.t 21)) (some (.t 22))),oz 24 (.bll 1 (aq 1 Ak.zc) [(0,(.t 23))]),oz 25 (.app 9 1 16 (.t 19) (.t 24)),mt 6 25] (rg false [mt 26 7,oz 27 (.bin .add (.t 26) (ki 1)),mt 5 27])) .skip))) (rg false [mt 12 7,oz 13 (.bin .add (.t 12) (ki 1)),mt 7 13])))
noncomputable def Rq:CI:=⟨false,2,34,[.tmp 4],(sf [oz 4 (.mv (.k (.nils)))] (sf [oz 5 (.mv (ki 0))] (sf [oz 6 (.mv (.k (.nils)))] (.seq (sf [oz 7 (.mv (ki 0))] (.blk 0 (.loop [0,1,5,6,7] aG))) (sf [mt 28 6,mt 29 0,mt 30 5,oz 31 (.sls (.t 29) (some (.t 30)) none),oz 32 (.bll 1 (aq 1 Ak.zc) [(0,(.t 31))]),oz 33 (.app 9 1 16 (.t 28) (.t 32)),mt 4 33] .ret)))))⟩
noncomputable def T2:CI:=⟨false,3,52,[.cell true 53 6, .tmp 7],(sf [oz 3 (.box 32 53 (.t 0)),oz 6 (.alloc 32 Ae.zc),oz 7 (.mv (ki 0))] (sf [oz 8 (.mv (ki 0))] (.seq (sf [mt 11 1,oz 12 (.bin .eql (.t 11) (.k (.i .u8 98)))] (.cond (.t 12) (rg false [mt 14 2,oz 15 (.call Mo [(.t 14)]),mt 13 15,oz 16 (.ext (.t 13) 0),oz 17 (.ext (.t 13) 1),oz 18 (.fa 1 (.t 3)),on (.st 1 (.t 18) (.t 16)),mt 8 17]) (sf [mt 19 1,oz 20 (.bin .eql (.t 19) (.k (.i .u8 107)))] (.cond (.t 20) (rg false [mt 22 2,oz 23 (.call IS [(.t 22)]),mt 21 23,oz 24 (.ext (.t 21) 0),oz 25 (.ext (.t 21) 1),oz 26 (.fa 20 (.t 3)),on (.st 32 (.t 26) (.t 24)),mt 8 25]) (sf [mt 27 1,oz 28 (.bin .eql (.t 27) (.k (.i .u8 116)))] (.cond (.t 28) (rg false [mt 30 2,oz 31 (.call Mq [(.t 30)]),mt 29 31,oz 32 (.ext (.t 29) 0),oz 33 (.ext (.t 29) 1),oz 34 (.fa 2 (.t 3)),on (.st 18 (.t 34) (.t 32)),mt 8 33]) (sf [mt 36 2,oz 37 (.call Jv [(.t 36),(.k (.i .u64 20))]),mt 35 37,oz 38 (.ext (.t 35) 0),oz 39 (.ext (.t 35) 1),mt 9 38,mt 10 39] (sf [mt 40 10,mt 8 40] (.seq (sf [mt 41 8,oz 42 (.bin .eql (.t 41) (ki 0)),mt 43 42,⟨some 44,some (43,true), .mv (.t 9)⟩,⟨some 45,some (43,true), .bin .eql (.t 44) (.k (.i .u64 0))⟩,oz 46 (.pick (.t 43) (.t 45) (.k (.b false)))] (.cond (.t 46) (rg false [oz 8 (.mv (ki 6))]) .skip)) (rg false [mt 47 9,oz 48 (.cvi .i64 (.t 47)),oz 49 (.fa 52 (.t 3)),on (.st 1 (.t 49) (.t 48))])))))))))) (sf [oz 50 (.ld true 53 (.t 3)),mt 51 8,on (.st 53 (.t 6) (.t 50)),mt 7 51] .ret))))⟩
noncomputable def XK:AC:=(sf [oz 9 (.bin .lss (.t 8) (.t 7))] (.seq (.cond (.t 9) .skip (.exit 0)) (.seq (.blk 1 (sf [oz 10 (.ias 1 (.t 6) (.t 8)),oz 11 (.ld false 1 (.t 10)),mt 5 11] (sf [mt 12 5,oz 13 (.call BH [(.t 3),(.t 12)])] (rg false [oz 14 (.call BH [(.t 3),(.k (.s [10]))])])))) (rg false [oz 15 (.bin .add (.t 8) (ki 1)),mt 8 15]))))
noncomputable def PD:CI:=⟨false,1,17,[.tmp 2],(sf [oz 2 (.mv (.k (.s [])))] (sf [oz 3 (.alloc 107 (zz [(1, .nilp),(1, .nils)]))] (.seq (sf [mt 6 0,oz 7 (.len (.t 6)),oz 8 (.mv (ki 0))] (.blk 0 (.loop [3,6,7,8] XK))) (sf [oz 16 (.call Df [(.t 3)]),mt 2 16] .ret))))⟩
noncomputable def Oa:CI:=⟨false,1,13,[.tmp 2, .tmp 3],(sf [oz 2 (.mv (.k (.nils))),oz 3 (.mv (.k (.b false)))] (.seq (sf [mt 4 0,oz 5 (.bin .neq (.t 4) (.k (.s []))),mt 6 5,⟨some 7,some (6,true), .mv (.t 0)⟩,⟨some 8,some (6,true), .call FT [(.t 7),(.k (.s [10]))]⟩,⟨some 9,some (6,true), .un .not (.t 8)⟩,oz 10 (.pick (.t 6) (.t 9) (.k (.b false)))] (.cond (.t 10) (sf [oz 2 (.mv (.k (.nils))),oz 3 (.mv (.k (.b false)))] .ret) .skip)) (sf [mt 11 0,oz 12 (.call JR [(.t 11)]),mt 2 12,oz 3 (.mv (.k (.b true)))] .ret)))⟩
noncomputable def Oi:CI:=⟨false,2,10,[.tmp 4],(sf [oz 4 (.mv (.k (.b false)))] (sf [mt 5 0,oz 6 (.cvs (.t 5)),mt 7 1,oz 8 (.cvs (.t 7)),oz 9 (.bin .eql (.t 6) (.t 8)),mt 4 9] .ret))⟩
noncomputable def ZY:AC:=(.seq (sf [mt 7 3,oz 8 (.bin .lss (.t 7) (ki 16))] (.cond (.t 8) .skip (.exit 0))) (.seq (.blk 1 (sf [mt 11 3,oz 12 (.fa 1 (.t 1)),oz 13 (.iaa 16 1 (.t 12) (.t 11)),oz 14 (.ld false 1 (.t 13)),oz 15 (.bin .neq (.t 14) (.k (.i .u8 0)))] (.cond (.t 15) (sf [oz 2 (.mv (.k (.b false)))] .ret) .skip))) (rg false [mt 9 3,oz 10 (.bin .add (.t 9) (ki 1)),mt 3 10])))
noncomputable def Rl:CI:=⟨false,1,19,[.tmp 2],(sf [oz 1 (.box 25 17 (.t 0)),oz 2 (.mv (.k (.b false)))] (.seq (sf [oz 4 (.fa 0 (.t 1)),oz 5 (.ld false 1 (.t 4)),oz 6 (.bin .eql (.t 5) (ki 6))] (.cond (.t 6) (sf [oz 2 (.mv (.k (.b true)))] .ret) .skip)) (.seq (sf [oz 3 (.mv (ki 4))] (.blk 0 (.loop [1,3] ZY))) (sf [oz 16 (.fa 0 (.t 1)),oz 17 (.ld false 1 (.t 16)),oz 18 (.bin .eql (.t 17) (ki 4)),mt 2 18] .ret))))⟩
noncomputable def UD:CI:=⟨true,0,2,[.cell true 3 0],(sf [oz 0 (.alloc 72 (zz [(3, .nilf)]))] (sf [oz 1 (.bld (zz [(3, .nilf)]) [(0,1,(.f Bf)),(1,1,(.f Bh)),(2,1,(.f Bg))]),on (.st 3 (.t 0) (.t 1))] .ret))⟩
noncomputable def ZV:CI:=⟨true,0,2,[.cell true 3 0],(sf [oz 0 (.alloc 72 (zz [(3, .nilf)]))] (sf [oz 1 (.bld (zz [(3, .nilf)]) [(0,1,(.f CY)),(1,1,(.f Dw)),(2,1,(.f Dv))]),on (.st 3 (.t 0) (.t 1))] .ret))⟩
noncomputable def WY:CI:=⟨true,0,2,[.cell true 3 0],(sf [oz 0 (.alloc 72 (zz [(3, .nilf)]))] (sf [oz 1 (.bld (zz [(3, .nilf)]) [(0,1,(.f C2)),(1,1,(.f CE)),(2,1,(.f CD))]),on (.st 3 (.t 0) (.t 1))] .ret))⟩
noncomputable def WX:CI:=⟨true,0,2,[.cell true 3 0],(sf [oz 0 (.alloc 72 (zz [(3, .nilf)]))] (sf [oz 1 (.bld (zz [(3, .nilf)]) [(0,1,(.f Eh)),(1,1,(.f EF)),(2,1,(.f EE))]),on (.st 3 (.t 0) (.t 1))] .ret))⟩
noncomputable def IN:CI:=⟨false,2,25,[],(sf [mt 4 0,oz 5 (.call CF [(.t 4)])] (.seq (sf [mt 6 1,oz 7 (.bin .lss (.t 6) (ki 0))] (.cond (.t 7) (rg false [oz 8 (.mkif 9 (.k (.s [115,116,114,105,110,103,115,46,66,117,105,108,100,101,114,46,71,114,111,119,58,32,110,101,103,97,116,105,118,101,32,99,111,117,110,116]))),on (.die)]) .skip)) (sr [mt 9 0,oz 10 (.nilc (.t 9)),oz 11 (.fa 1 (.t 10)),oz 12 (.ld false 1 (.t 11)),oz 13 (.capn (.t 12)),mt 14 0,oz 15 (.nilc (.t 14)),oz 16 (.fa 1 (.t 15)),oz 17 (.ld false 1 (.t 16)),oz 18 (.len (.t 17)),oz 19 (.bin .sub (.t 13) (.t 18)),mt 20 1,oz 21 (.bin .lss (.t 19) (.t 20))] (.cond (.t 21) (rg false [mt 22 0,mt 23 1,oz 24 (.call FE [(.t 22),(.t 23)])]) .skip))))⟩
noncomputable def Gl:CI:=⟨false,2,19,[.tmp 4, .tmp 5],(sf [oz 4 (.mv (ki 0)),oz 5 (.mv (.k (.nili)))] (sf [mt 6 0,oz 7 (.call CF [(.t 6)])] (sf [mt 8 0,mt 9 0,oz 10 (.nilc (.t 9)),oz 11 (.fa 1 (.t 10)),oz 12 (.ld false 1 (.t 11)),mt 13 1,oz 14 (.app 5 1 1 (.t 12) (.t 13)),oz 15 (.nilc (.t 8)),oz 16 (.fa 1 (.t 15)),on (.st 1 (.t 16) (.t 14))] (sf [mt 17 1,oz 18 (.lens (.t 17)),mt 4 18,oz 5 (.mv (.k (.nili)))] .ret))))⟩
noncomputable def HW:CI:=⟨false,1,14,[.tmp 2],(sf [oz 2 (.mv (.k (.s [])))] (.seq (.regd [mt 3 0,oz 4 (.nilc (.t 3)),oz 5 (.fa 1 (.t 4)),oz 6 (.ld false 1 (.t 5)),oz 7 (.usd (.t 6)),mt 8 0,oz 9 (.nilc (.t 8)),oz 10 (.fa 1 (.t 9)),oz 11 (.ld false 1 (.t 10)),oz 12 (.len (.t 11)),oz 13 (.ust 5 (.t 7) (.t 12)),mt 2 13] [some (0,0),some (0,0),some (0,0),some (0,0),some (0,0),some (0,0),some (0,0),some (0,0),some (0,0),some (0,0),none,some (1,1)]) .ret))⟩
noncomputable def Rx:CI:=⟨false,2,21,[.tmp 4, .tmp 5, .tmp 6],(sf [oz 4 (.mv (.k (.s []))),oz 5 (.mv (.k (.s []))),oz 6 (.mv (.k (.b false)))] (sf [mt 8 0,mt 9 1,oz 10 (.call EG [(.t 8),(.t 9)]),mt 7 10] (.seq (sf [mt 11 7,oz 12 (.bin .lss (.t 11) (ki 0))] (.cond (.t 12) (sf [mt 13 0,mt 4 13,oz 5 (.mv (.k (.s []))),oz 6 (.mv (.k (.b false)))] .ret) .skip)) (sr [mt 14 0,mt 15 7,oz 16 (.sls (.t 14) none (some (.t 15))),mt 17 0,mt 18 7,oz 19 (.bin .add (.t 18) (ki 1)),oz 20 (.sls (.t 17) (some (.t 19)) none),mt 4 16,mt 5 20,oz 6 (.mv (.k (.b true)))] .ret))))⟩
noncomputable def Rt:CI:=⟨false,1,7,[.tmp 2],(sf [oz 2 (.mv (.k (.s [])))] (sf [mt 3 0,mt 4 0,oz 5 (.bin .add (.t 4) (ki 1)),oz 6 (.sls (.k (.s [48,49,50,51,52,53,54,55,56,57,97,98,99,100,101,102])) (some (.t 3)) (some (.t 5))),mt 2 6] .ret))⟩
noncomputable def T6:CI:=⟨false,1,26,[.tmp 2],(sf [oz 1 (.box 25 17 (.t 0)),oz 2 (.mv (.k (.s [])))] (.seq (sf [oz 3 (.ld true 17 (.t 1)),oz 4 (.call JO [(.t 3)]),oz 5 (.un .not (.t 4))] (.cond (.t 5) (sf [oz 2 (.mv (.k (.s [])))] .ret) .skip)) (.seq (sf [oz 6 (.fa 0 (.t 1)),oz 7 (.ld false 1 (.t 6)),oz 8 (.bin .eql (.t 7) (ki 6))] (.cond (.t 8) (sf [oz 9 (.fa 1 (.t 1)),oz 10 (.ld true 16 (.t 9)),oz 11 (.call N5 [(.t 10)]),mt 2 11] .ret) .skip)) (sf [oz 12 (.fa 1 (.t 1)),oz 13 (.iaa 16 1 (.t 12) (ki 0)),oz 14 (.ld false 1 (.t 13)),oz 15 (.fa 1 (.t 1)),oz 16 (.iaa 16 1 (.t 15) (ki 1)),oz 17 (.ld false 1 (.t 16)),oz 18 (.fa 1 (.t 1)),oz 19 (.iaa 16 1 (.t 18) (ki 2)),oz 20 (.ld false 1 (.t 19)),oz 21 (.fa 1 (.t 1)),oz 22 (.iaa 16 1 (.t 21) (ki 3)),oz 23 (.ld false 1 (.t 22)),oz 24 (.bld (ak 4 a7).zc [(0,1,(.t 14)),(1,1,(.t 17)),(2,1,(.t 20)),(3,1,(.t 23))]),oz 25 (.call N6 [(.t 24)]),mt 2 25] .ret))))⟩
noncomputable def Rg:CI:=⟨false,1,22,[.tmp 2, .tmp 3],(sf [oz 2 (.mv (.k (.nils))),oz 3 (.mv (ki 0))] (.seq (sf [mt 6 0,oz 7 (.bin .eql (.t 6) (.k (.s [45])))] (.cond (.t 7) (sf [oz 2 (.mv (.k (.nils))),oz 3 (.mv (ki 0))] .ret) .skip)) (sf [mt 9 0,oz 10 (.call IK [(.t 9)]),mt 8 10,oz 11 (.ext (.t 8) 0),oz 12 (.ext (.t 8) 1),mt 4 11,mt 5 12] (.seq (sf [mt 13 5,oz 14 (.bin .eql (.t 13) (ki 0)),mt 15 14,⟨some 16,some (15,true), .mv (.t 4)⟩,⟨some 17,some (15,true), .len (.t 16)⟩,⟨some 18,some (15,true), .bin .eql (.t 17) (ki 0)⟩,oz 19 (.pick (.t 15) (.t 18) (.k (.b false)))] (.cond (.t 19) (rg false [oz 5 (.mv (ki 5))]) .skip)) (sf [mt 20 4,mt 21 5,mt 2 20,mt 3 21] .ret)))))⟩
noncomputable def MX:CI:=⟨false,1,19,[.cell true 32 2, .tmp 3],(sf [oz 2 (.alloc 29 (ak 32 a7).zc),oz 3 (.mv (ki 0))] (sf [mt 7 0,oz 8 (.call IK [(.t 7)]),mt 6 8,oz 9 (.ext (.t 6) 0),oz 10 (.ext (.t 6) 1),mt 4 9,mt 5 10] (.seq (sf [mt 11 5,oz 12 (.bin .neq (.t 11) (ki 0))] (.cond (.t 12) (sf [oz 13 (.bld (ak 32 a7).zc []),mt 14 5,on (.st 32 (.t 2) (.t 13)),mt 3 14] .ret) .skip)) (sf [mt 15 4,oz 16 (.call RR [(.t 15)]),oz 17 (.ext (.t 16) 0),oz 18 (.ext (.t 16) 1),on (.st 32 (.t 2) (.t 17)),mt 3 18] .ret))))⟩
noncomputable def Rk:CI:=⟨false,1,81,[.cell true 18 2, .tmp 3],(sf [oz 2 (.alloc 27 Aq.zc),oz 3 (.mv (ki 0))] (sf [oz 4 (.mv (.k (.s [])))] (sf [oz 5 (.mv (.k (.s [])))] (sf [oz 6 (.mv (.k (.b false)))] (sf [mt 13 0,oz 14 (.lens (.t 13)),oz 15 (.bin .gtr (.t 14) (ki 0)),mt 16 15,⟨some 17,some (16,true), .mv (.t 0)⟩,⟨some 18,some (16,true), .ixs (.t 17) (ki 0)⟩,⟨some 19,some (16,true), .bin .eql (.t 18) (.k (.i .u8 91))⟩,oz 20 (.pick (.t 16) (.t 19) (.k (.b false))),mt 7 20] (.seq (sf [mt 21 7] (.cond (.t 21) (rg false [mt 23 0,oz 24 (.sls (.t 23) (some (ki 1)) none),oz 25 (.call Pt [(.t 24)]),mt 22 25,oz 26 (.ext (.t 22) 0),oz 27 (.ext (.t 22) 1),oz 28 (.ext (.t 22) 2),mt 4 26,mt 5 27,mt 6 28]) (sf [mt 29 0,oz 30 (.call E9 [(.t 29),(.k (.i .u8 58))]),mt 8 30] (sf [mt 31 8,oz 32 (.len (.t 31)),oz 33 (.bin .gtr (.t 32) (ki 1)),mt 6 33] (sf [mt 34 8,oz 35 (.ias 1 (.t 34) (ki 0)),oz 36 (.ld false 1 (.t 35)),mt 4 36] (sf [mt 37 6] (.cond (.t 37) (rg false [mt 38 0,mt 39 8,oz 40 (.ias 1 (.t 39) (ki 0)),oz 41 (.ld false 1 (.t 40)),oz 42 (.lens (.t 41)),oz 43 (.bin .add (.t 42) (ki 1)),oz 44 (.sls (.t 38) (some (.t 43)) none),mt 5 44]) .skip))))))) (.seq (sf [mt 45 6,oz 46 (.un .not (.t 45)),mt 47 46,⟨some 48,some (47,false), .mv (.t 4)⟩,⟨some 49,some (47,false), .call E9 [(.t 48),(.k (.i .u8 58))]⟩,⟨some 50,some (47,false), .len (.t 49)⟩,⟨some 51,some (47,false), .bin .gtr (.t 50) (ki 1)⟩,⟨some 52,some (47,false), .mv (.t 7)⟩,⟨some 53,some (47,false), .eq true (.one (.b)) (.t 51) (.t 52)⟩,oz 54 (.pick (.t 47) (.k (.b true)) (.t 53))]
 (.cond (.t 54) (sf [oz 55 (.bld Aq.zc []),on (.st 18 (.t 2) (.t 55)),oz 3 (.mv (ki 5))] .ret) .skip)) (sf [mt 57 4,oz 58 (.call Mr [(.t 57)]),mt 56 58,oz 59 (.ext (.t 56) 0),oz 60 (.ext (.t 56) 1),oz 9 (.alloc 25 Aw.zc),on (.st 17 (.t 9) (.t 59)),mt 10 60] (.seq (sf [mt 61 10,oz 62 (.bin .neq (.t 61) (ki 0))] (.cond (.t 62) (sf [oz 63 (.bld Aq.zc []),mt 64 10,on (.st 18 (.t 2) (.t 63)),mt 3 64] .ret) .skip)) (sf [mt 66 5,oz 67 (.call Jv [(.t 66),(.k (.i .u64 65535))]),mt 65 67,oz 68 (.ext (.t 65) 0),oz 69 (.ext (.t 65) 1),mt 11 68,mt 12 69] (.seq (sf [mt 70 12,oz 71 (.bin .neq (.t 70) (ki 0))] (.cond (.t 71) (sf [oz 72 (.bld Aq.zc []),mt 73 12,on (.st 18 (.t 2) (.t 72)),mt 3 73] .ret) .skip)) (.seq (sf [mt 74 11,oz 75 (.bin .eql (.t 74) (.k (.i .u64 0)))] (.cond (.t 75) (sf [oz 76 (.bld Aq.zc []),on (.st 18 (.t 2) (.t 76)),oz 3 (.mv (ki 6))] .ret) .skip)) (sf [oz 77 (.ld true 17 (.t 9)),mt 78 11,oz 79 (.cvi .i64 (.t 78)),oz 80 (.bld Aq.zc [(0,17,(.t 77)),(17,1,(.t 79))]),on (.st 18 (.t 2) (.t 80)),oz 3 (.mv (ki 0))] .ret)))))))))))))⟩
noncomputable def dE:AC:=(.seq (sf [mt 29 7,mt 30 0,oz 31 (.lens (.t 30)),oz 32 (.bin .lss (.t 29) (.t 31))] (.cond (.t 32) .skip (.exit 0))) (.seq (.blk 1 (sf [mt 35 0,mt 36 7,oz 37 (.ixs (.t 35) (.t 36)),oz 38 (.cvi .u64 (.t 37)),oz 39 (.bin .sub (.t 38) (.k (.i .u64 48))),mt 8 39] (.seq (sf [mt 40 6,mt 41 1,oz 42 (.bin .quo (.t 41) (.k (.i .u64 10))),oz 43 (.bin .gtr (.t 40) (.t 42)),mt 44 43,⟨some 45,some (44,false), .mv (.t 6)⟩,⟨some 46,some (44,false), .bin .mul (.k (.i .u64 10)) (.t 45)⟩,⟨some 47,some (44,false), .mv (.t 1)⟩,⟨some 48,some (44,false), .mv (.t 8)⟩,⟨some 49,some (44,false), .mv (.t 1)⟩,⟨some 50,some (44,false), .mnx false (.t 48) (.t 49)⟩,⟨some 51,some (44,false), .bin .sub (.t 47) (.t 50)⟩,⟨some 52,some (44,false), .bin .gtr (.t 46) (.t 51)⟩,oz 53 (.pick (.t 44) (.k (.b true)) (.t 52)),mt 54 53,⟨some 55,some (54,false), .mv (.t 8)⟩,⟨some 56,some (54,false), .mv (.t 1)⟩,⟨some 57,some (54,false), .bin .gtr (.t 55) (.t 56)⟩,oz 58 (.pick (.t 54) (.k (.b true)) (.t 57))] (.cond (.t 58) (sf [oz 4 (.mv (.k (.i .u64 0))),oz 5 (.mv (ki 6))] .ret) .skip)) (rg false [mt 59 6,oz 60 (.bin .mul (.k (.i .u64 10)) (.t 59)),mt 61 8,oz 62 (.bin .add (.t 60) (.t 61)),mt 6 62])))) (rg false [mt 33 7,oz 34 (.bin .add (.t 33) (ki 1)),mt 7 34])))
noncomputable def TC:CI:=⟨false,2,64,[.tmp 4, .tmp 5],(sf [oz 4 (.mv (.k (.i .u64 0))),oz 5 (.mv (ki 0))] (.seq (sf [mt 9 0,oz 10 (.lens (.t 9)),oz 11 (.bin .eql (.t 10) (ki 0)),mt 12 11,⟨some 13,some (12,false), .mv (.t 0)⟩,⟨some 14,some (12,false), .call Le [(.t 13)]⟩,⟨some 15,some (12,false), .mv (.t 0)⟩,⟨some 16,some (12,false), .lens (.t 15)⟩,⟨some 17,some (12,false), .bin .lss (.t 14) (.t 16)⟩,oz 18 (.pick (.t 12) (.k (.b true)) (.t 17)),mt 19 18,⟨some 20,some (19,false), .mv (.t 0)⟩,⟨some 21,some (19,false), .lens (.t 20)⟩,⟨some 22,some (19,false), .bin .gtr (.t 21) (ki 1)⟩,⟨some 23,some (19,false), .mv (.t 22)⟩,⟨some 24,some (23,true), .mv (.t 0)⟩,⟨some 25,some (23,true), .ixs (.t 24) (ki 0)⟩,⟨some 26,some (23,true), .bin .eql (.t 25) (.k (.i .u8 48))⟩,⟨some 27,some (19,false), .pick (.t 23) (.t 26) (.k (.b false))⟩,oz 28 (.pick (.t 19) (.k (.b true)) (.t 27))] (.cond (.t 28) (sf [oz 4 (.mv (.k (.i .u64 0))),oz 5 (.mv (ki 5))] .ret) .skip)) (sf [oz 6 (.mv (.k (.i .u64 0)))] (.seq (sf [oz 7 (.mv (ki 0))] (.blk 0 (.loop [0,1,6,7] dE))) (sf [mt 63 6,mt 4 63,oz 5 (.mv (ki 0))] .ret)))))⟩
noncomputable def Iv:CI:=⟨false,2,8,[.tmp 4],(sf [oz 4 (.mv (.k (.b false)))] (sf [mt 5 0,mt 6 1,oz 7 (.call Cs [(.t 5),(.t 6)]),mt 4 7] .ret))⟩
noncomputable def Od:CI:=⟨false,1,8,[.tmp 2],(sf [oz 2 (.mv (.k (.nils)))] (.seq (sf [mt 3 0,oz 4 (.bin .eql (.t 3) (.k (.s [])))] (.cond (.t 4) (sf [oz 2 (.mv (.k (.nils)))] .ret) .skip)) (sf [mt 5 0,oz 6 (.call F2 [(.t 5),(.k (.s [10]))]),oz 7 (.call Id [(.t 6),(.k (.s [10]))]),mt 2 7] .ret)))⟩
noncomputable def KL:CI:=⟨false,1,16,[.tmp 2],(sf [oz 1 (.box 27 18 (.t 0)),oz 2 (.mv (.k (.b false)))] (sf [oz 3 (.fa 0 (.t 1)),oz 4 (.ld true 17 (.t 3)),oz 5 (.call Hx [(.t 4)]),mt 6 5,⟨some 7,some (6,true), .fa 17 (.t 1)⟩,⟨some 8,some (6,true), .ld false 1 (.t 7)⟩,⟨some 9,some (6,true), .bin .geq (.t 8) (ki 1)⟩,oz 10 (.pick (.t 6) (.t 9) (.k (.b false))),mt 11 10,⟨some 12,some (11,true), .fa 17 (.t 1)⟩,⟨some 13,some (11,true), .ld false 1 (.t 12)⟩,⟨some 14,some (11,true), .bin .leq (.t 13) (ki 65535)⟩,oz 15 (.pick (.t 11) (.t 14) (.k (.b false))),mt 2 15] .ret))⟩
noncomputable def MV:CI:=⟨false,1,10,[.tmp 2],(sf [oz 1 (.box 32 53 (.t 0)),oz 2 (.mv (.k (.s [])))] (.seq (sf [oz 3 (.fa 1 (.t 1)),oz 4 (.ld false 1 (.t 3)),oz 5 (.len (.t 4)),oz 6 (.bin .eql (.t 5) (ki 0))] (.cond (.t 6) (sf [oz 2 (.mv (.k (.s [45])))] .ret) .skip)) (sf [oz 7 (.fa 1 (.t 1)),oz 8 (.ld false 1 (.t 7)),oz 9 (.call Hi [(.t 8)]),mt 2 9] .ret)))⟩
noncomputable def UG:AC:=(sf [oz 9 (.bin .lss (.t 8) (.t 7))] (.seq (.cond (.t 9) .skip (.exit 0)) (.seq (.blk 1 (sf [oz 10 (.ias 1 (.t 6) (.t 8)),oz 11 (.ld false 1 (.t 10)),mt 5 11] (sf [mt 12 5,oz 13 (.bin .shr (.t 12) (.k (.i .u64 4))),oz 14 (.ixs (.k (.s [48,49,50,51,52,53,54,55,56,57,97,98,99,100,101,102])) (.t 13)),oz 15 (.call D2 [(.t 3),(.t 14)])] (rg false [mt 16 5,oz 17 (.bin .and (.t 16) (.k (.i .u8 15))),oz 18 (.ixs (.k (.s [48,49,50,51,52,53,54,55,56,57,97,98,99,100,101,102])) (.t 17)),oz 19 (.call D2 [(.t 3),(.t 18)])])))) (rg false [oz 20 (.bin .add (.t 8) (ki 1)),mt 8 20]))))
noncomputable def MY:CI:=⟨false,1,22,[.tmp 2],(sf [oz 2 (.mv (.k (.s [])))] (sf [oz 3 (.alloc 107 (zz [(1, .nilp),(1, .nils)]))] (.seq (sf [mt 6 0,oz 7 (.len (.t 6)),oz 8 (.mv (ki 0))] (.blk 0 (.loop [3,6,7,8] UG))) (sf [oz 21 (.call Df [(.t 3)]),mt 2 21] .ret))))⟩
noncomputable def Re:CI:=⟨true,2,14,[.tmp 4],(sf [oz 4 (.mv (ki 0))] (sf [mt 6 0,mt 7 1,oz 8 (.call IR [(.t 7)]),mt 5 8,oz 9 (.ext (.t 5) 0),oz 10 (.ext (.t 5) 1),oz 11 (.nilc (.t 6)),oz 12 (.fa 1 (.t 11)),on (.st 1 (.t 12) (.t 9)),mt 4 10] (sf [mt 13 4,mt 4 13] .ret)))⟩
noncomputable def MU:CI:=⟨false,1,13,[.tmp 2, .tmp 3],(sf [oz 2 (.mv (.k (.nils))),oz 3 (.mv (ki 0))] (.seq (sf [mt 4 0] (.blk 0 (sf [oz 6 (.bin .eql (.t 4) (.k (.s [45]))),mt 5 6] (.cond (.t 5) (sf [oz 2 (.mv (.k (.nils))),oz 3 (.mv (ki 0))] .ret) (sf [oz 8 (.bin .eql (.t 4) (.k (.s []))),mt 7 8] (.cond (.t 7) (sf [oz 2 (.mv (.k (.nils))),oz 3 (.mv (ki 5))] .ret) .skip)))))) (sf [mt 9 0,oz 10 (.call Hj [(.t 9)]),oz 11 (.ext (.t 10) 0),oz 12 (.ext (.t 10) 1),mt 2 11,mt 3 12] .ret)))⟩
noncomputable def Rd:CI:=⟨true,1,6,[.tmp 2],(sf [oz 2 (.mv (.k (.b false)))] (sf [mt 3 0,oz 4 (.nilc (.t 3)),oz 5 (.fa 1 (.t 4)),on (.st 1 (.t 5) (.k (.nils)))] (sf [oz 2 (.mv (.k (.b true)))] .ret)))⟩
noncomputable def P3:CI:=⟨false,1,6,[.tmp 2],(sf [oz 1 (.box 32 53 (.t 0)),oz 2 (.mv (.k (.s [])))] (sf [oz 3 (.fa 2 (.t 1)),oz 4 (.ld true 18 (.t 3)),oz 5 (.call Ij [(.t 4)]),mt 2 5] .ret))⟩
noncomputable def LY:CI:=⟨false,1,28,[.tmp 2],(sf [oz 1 (.box 27 18 (.t 0)),oz 2 (.mv (.k (.s [])))] (.seq (sf [oz 4 (.ld true 18 (.t 1)),oz 5 (.call FW [(.t 4)]),oz 6 (.un .not (.t 5))] (.cond (.t 6) (sf [oz 2 (.mv (.k (.s [])))] .ret) .skip)) (sf [oz 7 (.fa 17 (.t 1)),oz 8 (.ld false 1 (.t 7)),oz 9 (.cvi .u64 (.t 8)),oz 10 (.call FL [(.t 9)]),mt 3 10] (.seq (sf [oz 11 (.fa 0 (.t 1)),oz 12 (.ld true 17 (.t 11)),oz 13 (.call Lh [(.t 12)]),oz 14 (.bin .gtr (.t 13) (ki 32))] (.cond (.t 14) (sf [oz 15 (.fa 0 (.t 1)),oz 16 (.ld true 17 (.t 15)),oz 17 (.call JW [(.t 16)]),oz 18 (.bin .add (.k (.s [91])) (.t 17)),oz 19 (.bin .add (.t 18) (.k (.s [93,58]))),mt 20 3,oz 21 (.bin .add (.t 19) (.t 20)),mt 2 21] .ret) .skip)) (sf [oz 22 (.fa 0 (.t 1)),oz 23 (.ld true 17 (.t 22)),oz 24 (.call JW [(.t 23)]),oz 25 (.bin .add (.t 24) (.k (.s [58]))),mt 26 3,oz 27 (.bin .add (.t 25) (.t 26)),mt 2 27] .ret)))))⟩
noncomputable def UC:CI:=⟨true,2,14,[.tmp 4],(sf [oz 4 (.mv (ki 0))] (sf [mt 6 0,mt 7 1,oz 8 (.call H7 [(.t 7)]),mt 5 8,oz 9 (.ext (.t 5) 0),oz 10 (.ext (.t 5) 1),oz 11 (.nilc (.t 6)),oz 12 (.fa 2 (.t 11)),on (.st 18 (.t 12) (.t 9)),mt 4 10] (sf [mt 13 4,mt 4 13] .ret)))⟩
noncomputable def KM:CI:=⟨false,1,46,[.cell true 18 2, .tmp 3],(sf [oz 2 (.alloc 27 Aq.zc),oz 3 (.mv (ki 0))] (sf [mt 11 0,oz 12 (.call GZ [(.t 11)]),mt 10 12,oz 13 (.ext (.t 10) 0),oz 14 (.ext (.t 10) 1),oz 15 (.ext (.t 10) 2),mt 4 13,mt 5 14,mt 6 15] (.seq (sf [mt 16 6,oz 17 (.un .not (.t 16))] (.cond (.t 17) (sf [oz 18 (.bld Aq.zc []),on (.st 18 (.t 2) (.t 18)),oz 3 (.mv (ki 5))] .ret) .skip)) (sf [mt 20 4,oz 21 (.call Li [(.t 20)]),mt 19 21,oz 22 (.ext (.t 19) 0),oz 23 (.ext (.t 19) 1),oz 7 (.alloc 25 Aw.zc),on (.st 17 (.t 7) (.t 22)),mt 8 23] (.seq (sf [mt 24 8,oz 25 (.bin .neq (.t 24) (ki 0))] (.cond (.t 25) (sf [oz 26 (.bld Aq.zc []),mt 27 8,on (.st 18 (.t 2) (.t 26)),mt 3 27] .ret) .skip)) (sf [mt 29 5,oz 30 (.call FM [(.t 29),(.k (.i .u64 65535))]),mt 28 30,oz 31 (.ext (.t 28) 0),oz 32 (.ext (.t 28) 1),mt 9 31,mt 8 32] (.seq (.blk 0 (sf [mt 34 8,oz 35 (.bin .neq (.t 34) (ki 0)),mt 33 35] (.cond (.t 33) (sf [oz 36 (.bld Aq.zc []),mt 37 8,on (.st 18 (.t 2) (.t 36)),mt 3 37] .ret) (sf [mt 39 9,oz 40 (.bin .eql (.t 39) (.k (.i .u64 0))),mt 38 40] (.cond (.t 38) (sf [oz 41 (.bld Aq.zc []),on (.st 18 (.t 2) (.t 41)),oz 3 (.mv (ki 6))] .ret) .skip))))) (sf [oz 42 (.ld true 17 (.t 7)),mt 43 9,oz 44 (.cvi .i64 (.t 43)),oz 45 (.bld Aq.zc [(0,17,(.t 42)),(17,1,(.t 44))]),on (.st 18 (.t 2) (.t 45)),oz 3 (.mv (ki 0))] .ret))))))))⟩
noncomputable def UB:CI:=⟨true,1,14,[.tmp 2],(sf [oz 2 (.mv (.k (.b false)))] (sf [mt 4 0,oz 5 (.nilc (.t 4)),oz 6 (.fa 2 (.t 5)),oz 7 (.ld true 18 (.t 6)),oz 8 (.call FW [(.t 7)]),mt 3 8] (sf [mt 9 0,oz 10 (.bld Aq.zc []),oz 11 (.nilc (.t 9)),oz 12 (.fa 2 (.t 11)),on (.st 18 (.t 12) (.t 10))] (sf [mt 13 3,mt 2 13] .ret))))⟩
noncomputable def NU:CI:=⟨false,1,6,[.tmp 2],(sf [oz 1 (.box 32 53 (.t 0)),oz 2 (.mv (.k (.s [])))] (sf [oz 3 (.fa 20 (.t 1)),oz 4 (.ld true 32 (.t 3)),oz 5 (.call N8 [(.t 4)]),mt 2 5] .ret))⟩
noncomputable def TF:CI:=⟨false,1,5,[.tmp 2],(sf [oz 1 (.box 29 32 (.t 0)),oz 2 (.mv (.k (.s [])))] (sf [oz 3 (.sla 32 1 (.t 1) none none),oz 4 (.call Hi [(.t 3)]),mt 2 4] .ret))⟩
noncomputable def SM:CI:=⟨true,2,14,[.tmp 4],(sf [oz 4 (.mv (ki 0))] (sf [mt 6 0,mt 7 1,oz 8 (.call Ii [(.t 7)]),mt 5 8,oz 9 (.ext (.t 5) 0),oz 10 (.ext (.t 5) 1),oz 11 (.nilc (.t 6)),oz 12 (.fa 20 (.t 11)),on (.st 32 (.t 12) (.t 9)),mt 4 10] (sf [mt 13 4,mt 4 13] .ret)))⟩
noncomputable def LX:CI:=⟨false,1,19,[.cell true 32 2, .tmp 3],(sf [oz 2 (.alloc 29 (ak 32 a7).zc),oz 3 (.mv (ki 0))] (sf [mt 7 0,oz 8 (.call Hj [(.t 7)]),mt 6 8,oz 9 (.ext (.t 6) 0),oz 10 (.ext (.t 6) 1),mt 4 9,mt 5 10] (.seq (sf [mt 11 5,oz 12 (.bin .neq (.t 11) (ki 0))] (.cond (.t 12) (sf [oz 13 (.bld (ak 32 a7).zc []),mt 14 5,on (.st 32 (.t 2) (.t 13)),mt 3 14] .ret) .skip)) (sf [mt 15 4,oz 16 (.call Pw [(.t 15)]),oz 17 (.ext (.t 16) 0),oz 18 (.ext (.t 16) 1),on (.st 32 (.t 2) (.t 17)),mt 3 18] .ret))))⟩
noncomputable def SL:CI:=⟨true,1,7,[.tmp 2],(sf [oz 2 (.mv (.k (.b false)))] (sf [mt 3 0,oz 4 (.bld (ak 32 a7).zc []),oz 5 (.nilc (.t 3)),oz 6 (.fa 20 (.t 5)),on (.st 32 (.t 6) (.t 4))] (sf [oz 2 (.mv (.k (.b true)))] .ret)))⟩
noncomputable def NS:CI:=⟨false,1,7,[.tmp 2],(sf [oz 1 (.box 32 53 (.t 0)),oz 2 (.mv (.k (.s [])))] (sf [oz 3 (.fa 52 (.t 1)),oz 4 (.ld false 1 (.t 3)),oz 5 (.cvi .u64 (.t 4)),oz 6 (.call FL [(.t 5)]),mt 2 6] .ret))⟩
noncomputable def Nc:CI:=⟨false,1,5,[.tmp 2],(sf [oz 2 (.mv (.k (.s [])))] (sf [mt 3 0,oz 4 (.call F3 [(.t 3),(ki 10)]),mt 2 4] .ret))⟩
noncomputable def SK:CI:=⟨true,2,28,[.tmp 4],(sf [oz 4 (.mv (ki 0))] (sf [mt 8 1,oz 9 (.call FM [(.t 8),(.k (.i .u64 20))]),mt 7 9,oz 10 (.ext (.t 7) 0),oz 11 (.ext (.t 7) 1),mt 5 10,mt 6 11] (sf [mt 12 0,mt 13 5,oz 14 (.cvi .i64 (.t 13)),oz 15 (.nilc (.t 12)),oz 16 (.fa 52 (.t 15)),on (.st 1 (.t 16) (.t 14))] (.seq (sf [mt 17 6,oz 18 (.bin .eql (.t 17) (ki 0)),mt 19 18,⟨some 20,some (19,true), .mv (.t 0)⟩,⟨some 21,some (19,true), .nilc (.t 20)⟩,⟨some 22,some (19,true), .fa 52 (.t 21)⟩,⟨some 23,some (19,true), .ld false 1 (.t 22)⟩,⟨some 24,some (19,true), .call JH [(.t 23)]⟩,⟨some 25,some (19,true), .un .not (.t 24)⟩,oz 26 (.pick (.t 19) (.t 25) (.k (.b false)))] (.cond (.t 26) (rg false [oz 6 (.mv (ki 6))]) .skip)) (sf [mt 27 6,mt 4 27] .ret)))))⟩
noncomputable def Nd:CI:=⟨false,2,40,[.tmp 4, .tmp 5],(sf [oz 4 (.mv (.k (.i .u64 0))),oz 5 (.mv (ki 0))] (.seq (sf [mt 8 0,oz 9 (.bin .eql (.t 8) (.k (.s []))),mt 10 9,⟨some 11,some (10,false), .mv (.t 0)⟩,⟨some 12,some (10,false), .call H8 [(.t 11)]⟩,⟨some 13,some (10,false), .mv (.t 0)⟩,⟨some 14,some (10,false), .lens (.t 13)⟩,⟨some 15,some (10,false), .bin .lss (.t 12) (.t 14)⟩,oz 16 (.pick (.t 10) (.k (.b true)) (.t 15)),mt 17 16,⟨some 18,some (17,false), .mv (.t 0)⟩,⟨some 19,some (17,false), .lens (.t 18)⟩,⟨some 20,some (17,false), .bin .gtr (.t 19) (ki 1)⟩,⟨some 21,some (17,false), .mv (.t 20)⟩,⟨some 22,some (21,true), .mv (.t 0)⟩,⟨some 23,some (21,true), .ixs (.t 22) (ki 0)⟩,⟨some 24,some (21,true), .bin .eql (.t 23) (.k (.i .u8 48))⟩,⟨some 25,some (17,false), .pick (.t 21) (.t 24) (.k (.b false))⟩,oz 26 (.pick (.t 17) (.k (.b true)) (.t 25))] (.cond (.t 26) (sf [oz 4 (.mv (.k (.i .u64 0))),oz 5 (.mv (ki 5))] .ret) .skip)) (sf [mt 28 0,oz 29 (.call FV [(.t 28),(ki 10),(ki 64)]),mt 27 29,oz 30 (.ext (.t 27) 0),oz 31 (.ext (.t 27) 1),mt 6 30,mt 7 31] (.seq (sf [mt 32 7,oz 33 (.isni true (.t 32)),mt 34 33,⟨some 35,some (34,false), .mv (.t 6)⟩,⟨some 36,some (34,false), .mv (.t 1)⟩,⟨some 37,some (34,false), .bin .gtr (.t 35) (.t 36)⟩,oz 38 (.pick (.t 34) (.k (.b true)) (.t 37))] (.cond (.t 38) (sf [oz 4 (.mv (.k (.i .u64 0))),oz 5 (.mv (ki 6))] .ret) .skip)) (sf [mt 39 6,mt 4 39,oz 5 (.mv (ki 0))] .ret)))))⟩
noncomputable def Rc:CI:=⟨false,1,9,[.tmp 2],(sf [oz 2 (.mv (.k (.b false)))] (sf [mt 3 0,oz 4 (.bin .geq (.t 3) (ki 1)),mt 5 4,⟨some 6,some (5,true), .mv (.t 0)⟩,⟨some 7,some (5,true), .bin .leq (.t 6) (ki 20)⟩,oz 8 (.pick (.t 5) (.t 7) (.k (.b false))),mt 2 8] .ret))⟩
noncomputable def SJ:CI:=⟨true,1,13,[.tmp 2],(sf [oz 2 (.mv (.k (.b false)))] (sf [mt 4 0,oz 5 (.nilc (.t 4)),oz 6 (.fa 52 (.t 5)),oz 7 (.ld false 1 (.t 6)),oz 8 (.call JH [(.t 7)]),mt 3 8] (sf [mt 9 0,oz 10 (.nilc (.t 9)),oz 11 (.fa 52 (.t 10)),on (.st 1 (.t 11) (ki 0))] (sf [mt 12 3,mt 2 12] .ret))))⟩
noncomputable def GI:CI:=⟨false,1,20,[],(sf [mt 2 0,oz 3 (.nilc (.t 2)),oz 4 (.fa 0 (.t 3)),oz 5 (.ld false 1 (.t 4)),oz 6 (.eq false .p (.t 5) (.k (.nilp)))] (.cond (.t 6) (rg false [mt 7 0,mt 8 0,oz 9 (.cvp (.t 8)),oz 10 (.call Gh [(.t 9)]),oz 11 (.cvu 107 2 (.t 10)),oz 12 (.nilc (.t 7)),oz 13 (.fa 0 (.t 12)),on (.st 1 (.t 13) (.t 11))]) (sf [mt 14 0,oz 15 (.nilc (.t 14)),oz 16 (.fa 0 (.t 15)),oz 17 (.ld false 1 (.t 16)),mt 18 0,oz 19 (.eqp true (.t 17) (.t 18))] (.cond (.t 19) .stop .skip))))⟩
noncomputable def Iu:CI:=⟨false,2,8,[.tmp 4],(sf [oz 4 (.mv (ki 0))] (sf [mt 5 0,mt 6 1,oz 7 (.call CV [(.t 5),(.t 6)]),mt 4 7] .ret))⟩
noncomputable def dC:AC:=(.seq (sf [mt 9 6,oz 10 (.bin .lss (.t 9) (ki 8))] (.cond (.t 10) .skip (.exit 0))) (.seq (.blk 1 (sf [oz 13 (.ld true 8 (.t 3)),mt 14 6,oz 15 (.call MO [(.t 13),(.t 14)]),mt 16 5,oz 17 (.bin .gtr (.t 15) (.t 16))] (.cond (.t 17) (sf [mt 18 6,mt 4 18] (rg false [oz 19 (.ld true 8 (.t 3)),mt 20 6,oz 21 (.call MO [(.t 19),(.t 20)]),mt 5 21])) .skip))) (rg false [mt 11 6,oz 12 (.bin .add (.t 11) (ki 1)),mt 6 12])))
noncomputable def T8:CI:=⟨false,1,36,[.tmp 2],(sf [oz 1 (.box 23 16 (.t 0)),oz 2 (.mv (.k (.s [])))] (sf [oz 7 (.ld true 16 (.t 1)),oz 8 (.call Ld [(.t 7)]),oz 3 (.alloc 185 (ak 8 qj).zc),on (.st 8 (.t 3) (.t 8))] (sf [oz 4 (.mv (ki 0))] (sf [oz 5 (.mv (ki 0))] (.seq (sf [oz 6 (.mv (ki 0))] (.blk 0 (.loop [3,4,5,6] dC))) (.seq (sf [mt 22 5,oz 23 (.bin .lss (.t 22) (ki 2))] (.cond (.t 23) (sf [oz 24 (.ld true 8 (.t 3)),oz 25 (.call KH [(.t 24),(ki 0),(ki 8)]),mt 2 25] .ret) .skip)) (sr [oz 26 (.ld true 8 (.t 3)),mt 27 4,oz 28 (.call KH [(.t 26),(ki 0),(.t 27)]),oz 29 (.bin .add (.t 28) (.k (.s [58,58]))),oz 30 (.ld true 8 (.t 3)),mt 31 4,mt 32 5,oz 33 (.bin .add (.t 31) (.t 32)),oz 34 (.call KH [(.t 30),(.t 33),(ki 8)]),oz 35 (.bin .add (.t 29) (.t 34)),mt 2 35] .ret)))))))⟩
noncomputable def dD:AC:=(.seq (sf [mt 9 4,oz 10 (.bin .lss (.t 9) (ki 4))] (.cond (.t 10) .skip (.exit 0))) (.seq (.blk 1 (rg false [mt 13 3,oz 14 (.bin .add (.t 13) (.k (.s [46]))),mt 15 4,oz 16 (.iaa 4 1 (.t 1) (.t 15)),oz 17 (.ld false 1 (.t 16)),oz 18 (.cvi .u64 (.t 17)),oz 19 (.call Fl [(.t 18)]),oz 20 (.bin .add (.t 14) (.t 19)),mt 3 20])) (rg false [mt 11 4,oz 12 (.bin .add (.t 11) (ki 1)),mt 4 12])))
noncomputable def T9:CI:=⟨false,1,22,[.tmp 2],(sf [oz 1 (.box 156 4 (.t 0)),oz 2 (.mv (.k (.s [])))] (sf [oz 5 (.iaa 4 1 (.t 1) (ki 0)),oz 6 (.ld false 1 (.t 5)),oz 7 (.cvi .u64 (.t 6)),oz 8 (.call Fl [(.t 7)]),mt 3 8] (.seq (sf [oz 4 (.mv (ki 1))] (.blk 0 (.loop [1,3,4] dD))) (sf [mt 21 3,mt 2 21] .ret))))⟩
noncomputable def XH:AC:=(.seq (sf [mt 12 5,mt 13 0,oz 14 (.lens (.t 13)),oz 15 (.bin .lss (.t 12) (.t 14))] (.cond (.t 15) .skip (.exit 0))) (.seq (.blk 1 (sr [mt 18 0,mt 19 5,oz 20 (.ixs (.t 18) (.t 19)),oz 21 (.call Ig [(.t 20),(.k (.b false))]),mt 22 0,mt 23 5,oz 24 (.bin .add (.t 23) (ki 1)),oz 25 (.ixs (.t 22) (.t 24)),oz 26 (.call Ig [(.t 25),(.k (.b false))]),mt 6 21,mt 7 26] (.seq (sf [mt 27 6,oz 28 (.bin .lss (.t 27) (ki 0)),mt 29 28,⟨some 30,some (29,false), .mv (.t 7)⟩,⟨some 31,some (29,false), .bin .lss (.t 30) (ki 0)⟩,oz 32 (.pick (.t 29) (.k (.b true)) (.t 31))] (.cond (.t 32) (sf [oz 2 (.mv (.k (.nils))),oz 3 (.mv (ki 5))] .ret) .skip)) (rg false [mt 33 4,mt 34 6,oz 35 (.bin .mul (ki 16) (.t 34)),mt 36 7,oz 37 (.bin .add (.t 35) (.t 36)),oz 38 (.cvi .u8 (.t 37)),oz 39 (.bll 1 (aq 1 a7.zc) [(0,(.t 38))]),oz 40 (.app 5 1 1 (.t 33) (.t 39)),mt 4 40])))) (rg false [mt 16 5,oz 17 (.bin .add (.t 16) (ki 2)),mt 5 17])))
noncomputable def PA:CI:=⟨false,1,42,[.tmp 2, .tmp 3],(sf [oz 2 (.mv (.k (.nils))),oz 3 (.mv (ki 0))] (.seq (sf [mt 8 0,oz 9 (.lens (.t 8)),oz 10 (.bin .rem (.t 9) (ki 2)),oz 11 (.bin .neq (.t 10) (ki 0))] (.cond (.t 11) (sf [oz 2 (.mv (.k (.nils))),oz 3 (.mv (ki 5))] .ret) .skip)) (sf [oz 4 (.mv (.k (.nils)))] (.seq (sf [oz 5 (.mv (ki 0))] (.blk 0 (.loop [0,4,5] XH))) (sf [mt 41 4,mt 2 41,oz 3 (.mv (ki 0))] .ret)))))⟩
noncomputable def pO:AC:=(.seq (sf [mt 14 5,oz 15 (.bin .lss (.t 14) (ki 32))] (.cond (.t 15) .skip (.exit 0))) (.seq (.blk 1 (rg false [mt 18 5,mt 19 0,mt 20 5,oz 21 (.ias 1 (.t 19) (.t 20)),oz 22 (.ld false 1 (.t 21)),oz 23 (.iaa 32 1 (.t 4) (.t 18)),on (.st 1 (.t 23) (.t 22))])) (rg false [mt 16 5,oz 17 (.bin .add (.t 16) (ki 1)),mt 5 17])))
noncomputable def aE:CI:=⟨false,1,25,[.cell true 32 2, .tmp 3],(sf [oz 2 (.alloc 29 (ak 32 a7).zc),oz 3 (.mv (ki 0))] (sf [oz 4 (.alloc 29 (ak 32 a7).zc)] (.seq (sf [mt 6 0,oz 7 (.len (.t 6)),oz 8 (.bin .lss (.t 7) (ki 32))] (.cond (.t 8) (sf [oz 9 (.ld true 32 (.t 4)),on (.st 32 (.t 2) (.t 9)),oz 3 (.mv (ki 3))] .ret) .skip)) (.seq (sf [mt 10 0,oz 11 (.len (.t 10)),oz 12 (.bin .gtr (.t 11) (ki 32))] (.cond (.t 12) (sf [oz 13 (.ld true 32 (.t 4)),on (.st 32 (.t 2) (.t 13)),oz 3 (.mv (ki 4))] .ret) .skip)) (.seq (sf [oz 5 (.mv (ki 0))] (.blk 0 (.loop [0,2,4,5] pO))) (sf [oz 24 (.ld true 32 (.t 4)),on (.st 32 (.t 2) (.t 24)),oz 3 (.mv (ki 0))] .ret))))))⟩
noncomputable def kK:AC:=(.seq (sf [mt 6 5,oz 7 (.bin .add (.t 6) (ki 1)),mt 8 0,oz 9 (.lens (.t 8)),oz 10 (.bin .lss (.t 7) (.t 9))] (.cond (.t 10) .skip (.exit 0))) (.seq (.blk 1 (sf [mt 13 0,mt 14 5,oz 15 (.ixs (.t 13) (.t 14)),oz 16 (.bin .eql (.t 15) (.k (.i .u8 93))),mt 17 16,⟨some 18,some (17,true), .mv (.t 0)⟩,⟨some 19,some (17,true), .mv (.t 5)⟩,⟨some 20,some (17,true), .bin .add (.t 19) (ki 1)⟩,⟨some 21,some (17,true), .ixs (.t 18) (.t 20)⟩,⟨some 22,some (17,true), .bin .eql (.t 21) (.k (.i .u8 58))⟩,oz 23 (.pick (.t 17) (.t 22) (.k (.b false)))] (.cond (.t 23) (sr [mt 24 0,mt 25 5,oz 26 (.sls (.t 24) none (some (.t 25))),mt 27 0,mt 28 5,oz 29 (.bin .add (.t 28) (ki 2)),oz 30 (.sls (.t 27) (some (.t 29)) none),mt 2 26,mt 3 30,oz 4 (.mv (.k (.b true)))] .ret) .skip))) (rg false [mt 11 5,oz 12 (.bin .add (.t 11) (ki 1)),mt 5 12])))
noncomputable def VT:CI:=⟨false,1,31,[.tmp 2, .tmp 3, .tmp 4],(sf [oz 2 (.mv (.k (.s []))),oz 3 (.mv (.k (.s []))),oz 4 (.mv (.k (.b false)))] (.seq (sf [oz 5 (.mv (ki 0))] (.blk 0 (.loop [0,5] kK))) (sf [oz 2 (.mv (.k (.s []))),oz 3 (.mv (.k (.s []))),oz 4 (.mv (.k (.b false)))] .ret)))⟩
noncomputable def Rm:CI:=⟨false,1,47,[.cell true 17 2, .tmp 3],(sf [oz 2 (.alloc 25 Aw.zc),oz 3 (.mv (ki 0))] (.seq (sf [mt 10 0,oz 11 (.call E9 [(.t 10),(.k (.i .u8 58))]),oz 12 (.len (.t 11)),oz 13 (.bin .gtr (.t 12) (ki 1))] (.cond (.t 13) (sf [mt 15 0,oz 16 (.call Ms [(.t 15)]),mt 14 16,oz 17 (.ext (.t 14) 0),oz 18 (.ext (.t 14) 1),oz 4 (.alloc 23 (ak 16 a7).zc),on (.st 16 (.t 4) (.t 17)),mt 5 18] (.seq (sf [mt 19 5,oz 20 (.un .not (.t 19))] (.cond (.t 20) (sf [oz 21 (.bld Aw.zc []),on (.st 17 (.t 2) (.t 21)),oz 3 (.mv (ki 5))] .ret) .skip)) (sf [oz 22 (.ld true 16 (.t 4)),oz 23 (.bld Aw.zc [(0,1,(ki 6)),(1,16,(.t 22))]),on (.st 17 (.t 2) (.t 23)),oz 3 (.mv (ki 0))] .ret))) .skip)) (sf [mt 25 0,oz 26 (.call JP [(.t 25)]),mt 24 26,oz 27 (.ext (.t 24) 0),oz 28 (.ext (.t 24) 1),oz 6 (.alloc 156 (ak 4 a7).zc),on (.st 4 (.t 6) (.t 27)),mt 7 28] (.seq (sf [mt 29 7,oz 30 (.bin .neq (.t 29) (ki 0))] (.cond (.t 30) (sf [oz 31 (.bld Aw.zc []),mt 32 7,on (.st 17 (.t 2) (.t 31)),mt 3 32] .ret) .skip)) (sf [oz 34 (.iaa 4 1 (.t 6) (ki 0)),oz 35 (.ld false 1 (.t 34)),oz 36 (.iaa 4 1 (.t 6) (ki 1)),oz 37 (.ld false 1 (.t 36)),oz 38 (.iaa 4 1 (.t 6) (ki 2)),oz 39 (.ld false 1 (.t 38)),oz 40 (.iaa 4 1 (.t 6) (ki 3)),oz 41 (.ld false 1 (.t 40)),oz 42 (.bll 1 (aq 4 a7.zc) [(0,(.t 35)),(1,(.t 37)),(2,(.t 39)),(3,(.t 41))]),oz 43 (.call RQ [(.t 42)]),mt 33 43,oz 44 (.ext (.t 33) 0),oz 45 (.ext (.t 33) 1),oz 8 (.alloc 25 Aw.zc),on (.st 17 (.t 8) (.t 44)),mt 9 45] (sf [oz 46 (.ld true 17 (.t 8)),on (.st 17 (.t 2) (.t 46)),oz 3 (.mv (ki 0))]
 .ret))))))⟩
noncomputable def XI:AC:=(.seq (sf [mt 4 3,mt 5 0,oz 6 (.lens (.t 5)),oz 7 (.bin .lss (.t 4) (.t 6)),mt 8 7,⟨some 9,some (8,true), .mv (.t 0)⟩,⟨some 10,some (8,true), .mv (.t 3)⟩,⟨some 11,some (8,true), .ixs (.t 9) (.t 10)⟩,⟨some 12,some (8,true), .bin .geq (.t 11) (.k (.i .u8 48))⟩,oz 13 (.pick (.t 8) (.t 12) (.k (.b false))),mt 14 13,⟨some 15,some (14,true), .mv (.t 0)⟩,⟨some 16,some (14,true), .mv (.t 3)⟩,⟨some 17,some (14,true), .ixs (.t 15) (.t 16)⟩,⟨some 18,some (14,true), .bin .leq (.t 17) (.k (.i .u8 57))⟩,oz 19 (.pick (.t 14) (.t 18) (.k (.b false)))] (.cond (.t 19) .skip (.exit 0))) (.blk 1 (rg false [mt 20 3,oz 21 (.bin .add (.t 20) (ki 1)),mt 3 21])))
noncomputable def PB:CI:=⟨false,1,23,[.tmp 2],(sf [oz 2 (.mv (ki 0))] (sf [oz 3 (.mv (ki 0))] (.seq (.blk 0 (.loop [0,3] XI)) (sf [mt 22 3,mt 2 22] .ret))))⟩
noncomputable def Em:CI:=⟨false,2,21,[.tmp 4],(sf [oz 4 (.mv (.k (.b false)))] (sf [mt 5 0,oz 6 (.lens (.t 5)),mt 7 1,oz 8 (.lens (.t 7)),oz 9 (.bin .geq (.t 6) (.t 8)),mt 10 9,⟨some 11,some (10,true), .mv (.t 0)⟩,⟨some 12,some (10,true), .mv (.t 0)⟩,⟨some 13,some (10,true), .lens (.t 12)⟩,⟨some 14,some (10,true), .mv (.t 1)⟩,⟨some 15,some (10,true), .lens (.t 14)⟩,⟨some 16,some (10,true), .bin .sub (.t 13) (.t 15)⟩,⟨some 17,some (10,true), .sls (.t 11) (some (.t 16)) none⟩,⟨some 18,some (10,true), .mv (.t 1)⟩,⟨some 19,some (10,true), .bin .eql (.t 17) (.t 18)⟩,oz 20 (.pick (.t 10) (.t 19) (.k (.b false))),mt 4 20] .ret))⟩
noncomputable def LT:CI:=⟨false,2,8,[.tmp 4],(sf [oz 4 (.mv (.k (.nils)))] (sf [mt 5 0,mt 6 1,oz 7 (.call Gs [(.t 5),(.t 6),(ki 0),(ki (-1))]),mt 4 7] .ret))⟩
noncomputable def HU:CI:=⟨false,2,8,[.tmp 4],(sf [oz 4 (.mv (.k (.s [])))] (sf [mt 5 0,mt 6 1,oz 7 (.call CP [(.t 5),(.t 6)]),mt 4 7] .ret))⟩
noncomputable def PG:CI:=⟨false,1,20,[.tmp 2],(sf [oz 1 (.box 25 17 (.t 0)),oz 2 (.mv (.k (.b false)))] (sr [oz 3 (.fa 0 (.t 1)),oz 4 (.ld false 1 (.t 3)),oz 5 (.bin .eql (.t 4) (ki 6)),mt 6 5,⟨some 7,some (6,false), .fa 0 (.t 1)⟩,⟨some 8,some (6,false), .ld false 1 (.t 7)⟩,⟨some 9,some (6,false), .bin .eql (.t 8) (ki 4)⟩,⟨some 10,some (6,false), .mv (.t 9)⟩,⟨some 11,some (10,true), .ld true 17 (.t 1)⟩,⟨some 12,some (10,true), .fa 1 (.t 1)⟩,⟨some 13,some (10,true), .sla 16 1 (.t 12) none (some (ki 4))⟩,⟨some 14,some (10,true), .s2a 4 1 (.t 13)⟩,⟨some 15,some (10,true), .ld true 4 (.t 14)⟩,⟨some 16,some (10,true), .call JX [(.t 15)]⟩,⟨some 17,some (10,true), .eq false (.agg (kk [(1, .i .i64),(16, .i .u8)])) (.t 11) (.t 16)⟩,⟨some 18,some (6,false), .pick (.t 10) (.t 17) (.k (.b false))⟩,oz 19 (.pick (.t 6) (.k (.b true)) (.t 18)),mt 2 19] .ret))⟩
noncomputable def Jp:CI:=⟨false,2,9,[.tmp 4],(sf [oz 4 (.mv (.k (.b false)))] (sf [mt 5 0,mt 6 1,oz 7 (.call Fs [(.t 5),(.t 6)]),oz 8 (.bin .geq (.t 7) (ki 0)),mt 4 8] .ret))⟩
noncomputable def GJ:CI:=⟨false,2,17,[.tmp 4],(sf [oz 4 (.mv (.k (.nili)))] (sf [mt 5 0,oz 6 (.call CF [(.t 5)])] (sf [mt 7 0,mt 8 0,oz 9 (.nilc (.t 8)),oz 10 (.fa 1 (.t 9)),oz 11 (.ld false 1 (.t 10)),mt 12 1,oz 13 (.bll 1 (aq 1 a7.zc) [(0,(.t 12))]),oz 14 (.app 5 1 1 (.t 11) (.t 13)),oz 15 (.nilc (.t 7)),oz 16 (.fa 1 (.t 15)),on (.st 1 (.t 16) (.t 14))] (sf [oz 4 (.mv (.k (.nili)))] .ret))))⟩
noncomputable def UH:AC:=(.seq (sf [mt 14 5,mt 15 0,oz 16 (.lens (.t 15)),oz 17 (.bin .lss (.t 14) (.t 16))] (.cond (.t 17) .skip (.exit 0))) (.seq (.blk 1 (sf [mt 21 0,mt 22 5,oz 23 (.ixs (.t 21) (.t 22)),oz 24 (.call G1 [(.t 23)]),mt 20 24,oz 25 (.ext (.t 20) 0),oz 26 (.ext (.t 20) 1),mt 6 25,mt 7 26] (sf [mt 28 0,mt 29 5,oz 30 (.bin .add (.t 29) (ki 1)),oz 31 (.ixs (.t 28) (.t 30)),oz 32 (.call G1 [(.t 31)]),mt 27 32,oz 33 (.ext (.t 27) 0),oz 34 (.ext (.t 27) 1),mt 8 33,mt 9 34] (.seq (sf [mt 35 7,oz 36 (.un .not (.t 35)),mt 37 36,⟨some 38,some (37,false), .mv (.t 9)⟩,⟨some 39,some (37,false), .un .not (.t 38)⟩,oz 40 (.pick (.t 37) (.k (.b true)) (.t 39))] (.cond (.t 40) (sf [oz 2 (.mv (.k (.nils))),oz 3 (.mv (ki 5))] .ret) .skip)) (rg false [mt 41 4,mt 42 6,oz 43 (.bin .shl (.t 42) (.k (.i .u64 4))),mt 44 8,oz 45 (.bin .or (.t 43) (.t 44)),oz 46 (.cvi .u8 (.t 45)),oz 47 (.bll 1 (aq 1 a7.zc) [(0,(.t 46))]),oz 48 (.app 5 1 1 (.t 41) (.t 47)),mt 4 48]))))) (rg false [mt 18 5,oz 19 (.bin .add (.t 18) (ki 2)),mt 5 19])))
noncomputable def MZ:CI:=⟨false,1,50,[.tmp 2, .tmp 3],(sf [oz 2 (.mv (.k (.nils))),oz 3 (.mv (ki 0))] (.seq (sf [mt 10 0,oz 11 (.lens (.t 10)),oz 12 (.bin .rem (.t 11) (ki 2)),oz 13 (.bin .neq (.t 12) (ki 0))] (.cond (.t 13) (sf [oz 2 (.mv (.k (.nils))),oz 3 (.mv (ki 5))] .ret) .skip)) (sf [oz 4 (.mv (.k (.nils)))] (.seq (sf [oz 5 (.mv (ki 0))] (.blk 0 (.loop [0,4,5] UH))) (sf [mt 49 4,mt 2 49,oz 3 (.mv (ki 0))] .ret)))))⟩
noncomputable def PF:CI:=⟨false,1,11,[.tmp 2],(sf [oz 1 (.box 25 17 (.t 0)),oz 2 (.mv (ki 0))] (.seq (.blk 0 (sf [oz 4 (.ld true 17 (.t 1)),oz 5 (.call Hx [(.t 4)]),oz 6 (.un .not (.t 5)),mt 3 6] (.cond (.t 3) (sf [oz 2 (.mv (ki 0))] .ret) (sf [oz 8 (.fa 0 (.t 1)),oz 9 (.ld false 1 (.t 8)),oz 10 (.bin .eql (.t 9) (ki 4)),mt 7 10] (.cond (.t 7) (sf [oz 2 (.mv (ki 32))] .ret) .skip))))) (sf [oz 2 (.mv (ki 128))] .ret)))⟩
noncomputable def R1:CI:=⟨false,1,19,[.tmp 2],(sf [oz 1 (.box 25 17 (.t 0)),oz 2 (.mv (.k (.s [])))] (.seq (.blk 0 (sf [oz 4 (.ld true 17 (.t 1)),oz 5 (.call Hx [(.t 4)]),oz 6 (.un .not (.t 5)),mt 3 6] (.cond (.t 3) (sf [oz 2 (.mv (.k (.s [])))] .ret) (sf [oz 8 (.fa 0 (.t 1)),oz 9 (.ld false 1 (.t 8)),oz 10 (.bin .eql (.t 9) (ki 4)),mt 7 10] (.cond (.t 7) (sf [oz 11 (.fa 1 (.t 1)),oz 12 (.sla 16 1 (.t 11) none (some (ki 4))),oz 13 (.s2a 4 1 (.t 12)),oz 14 (.ld true 4 (.t 13)),oz 15 (.call Mv [(.t 14)]),mt 2 15] .ret) .skip))))) (sf [oz 16 (.fa 1 (.t 1)),oz 17 (.ld true 16 (.t 16)),oz 18 (.call Lg [(.t 17)]),mt 2 18] .ret)))⟩
noncomputable def Km:CI:=⟨false,1,35,[.tmp 2, .tmp 3, .tmp 4],(sf [oz 2 (.mv (.k (.s []))),oz 3 (.mv (.k (.s []))),oz 4 (.mv (.k (.b false)))] (.seq (sf [mt 11 0,oz 12 (.call FU [(.t 11),(.k (.s [91]))]),mt 10 12,oz 13 (.ext (.t 10) 0),oz 14 (.ext (.t 10) 1),mt 5 13,mt 6 14] (sf [mt 15 6] (.cond (.t 15) (sf [mt 17 5,oz 18 (.call JL [(.t 17),(.k (.s [93,58]))]),mt 16 18,oz 19 (.ext (.t 16) 0),oz 20 (.ext (.t 16) 1),oz 21 (.ext (.t 16) 2),mt 7 19,mt 8 20,mt 9 21] (sf [mt 22 7,mt 23 8,mt 24 9,mt 25 24,⟨some 26,some (25,true), .mv (.t 7)⟩,⟨some 27,some (25,true), .call Gt [(.t 26),(.k (.s [58]))]⟩,oz 28 (.pick (.t 25) (.t 27) (.k (.b false))),mt 2 22,mt 3 23,mt 4 28] .ret)) .skip))) (sf [mt 29 0,oz 30 (.ixs (.k (.s [58])) (ki 0)),oz 31 (.call GX [(.t 29),(.t 30)]),oz 32 (.ext (.t 31) 0),oz 33 (.ext (.t 31) 1),oz 34 (.ext (.t 31) 2),mt 2 32,mt 3 33,mt 4 34] .ret)))⟩
noncomputable def PH:CI:=⟨false,1,40,[.cell true 17 2, .tmp 3],(sf [oz 2 (.alloc 25 Aw.zc),oz 3 (.mv (ki 0))] (.seq (sf [mt 12 0,oz 13 (.call GX [(.t 12),(.k (.i .u8 58))]),mt 11 13,oz 14 (.ext (.t 11) 0),oz 15 (.ext (.t 11) 1),oz 16 (.ext (.t 11) 2),mt 4 14,mt 5 15,mt 6 16] (sf [mt 17 6] (.cond (.t 17) (sf [mt 19 0,oz 20 (.call JU [(.t 19)]),mt 18 20,oz 21 (.ext (.t 18) 0),oz 22 (.ext (.t 18) 1),oz 7 (.alloc 23 (ak 16 a7).zc),on (.st 16 (.t 7) (.t 21)),mt 8 22] (.seq (sf [mt 23 8,oz 24 (.bin .neq (.t 23) (ki 0))] (.cond (.t 24) (sf [oz 25 (.bld Aw.zc []),mt 26 8,on (.st 17 (.t 2) (.t 25)),mt 3 26] .ret) .skip)) (sf [oz 27 (.ld true 16 (.t 7)),oz 28 (.call N9 [(.t 27)]),on (.st 17 (.t 2) (.t 28)),oz 3 (.mv (ki 0))] .ret))) .skip))) (sf [mt 30 0,oz 31 (.call IL [(.t 30)]),mt 29 31,oz 32 (.ext (.t 29) 0),oz 33 (.ext (.t 29) 1),oz 9 (.alloc 156 (ak 4 a7).zc),on (.st 4 (.t 9) (.t 32)),mt 10 33] (.seq (sf [mt 34 10,oz 35 (.bin .neq (.t 34) (ki 0))] (.cond (.t 35) (sf [oz 36 (.bld Aw.zc []),mt 37 10,on (.st 17 (.t 2) (.t 36)),mt 3 37] .ret) .skip)) (sf [oz 38 (.ld true 4 (.t 9)),oz 39 (.call JX [(.t 38)]),on (.st 17 (.t 2) (.t 39)),oz 3 (.mv (ki 0))] .ret)))))⟩
noncomputable def VY:CI:=⟨false,1,17,[.cell true 32 2, .tmp 3],(sf [oz 2 (.alloc 29 (ak 32 a7).zc),oz 3 (.mv (ki 0))] (.seq (.blk 0 (sf [mt 5 0,oz 6 (.len (.t 5)),oz 7 (.bin .lss (.t 6) (ki 32)),mt 4 7] (.cond (.t 4) (sf [oz 8 (.bld (ak 32 a7).zc []),on (.st 32 (.t 2) (.t 8)),oz 3 (.mv (ki 3))] .ret) (sf [mt 10 0,oz 11 (.len (.t 10)),oz 12 (.bin .gtr (.t 11) (ki 32)),mt 9 12] (.cond (.t 9) (sf [oz 13 (.bld (ak 32 a7).zc []),on (.st 32 (.t 2) (.t 13)),oz 3 (.mv (ki 4))] .ret) .skip))))) (sf [mt 14 0,oz 15 (.s2a 32 1 (.t 14)),oz 16 (.ld true 32 (.t 15)),on (.st 32 (.t 2) (.t 16)),oz 3 (.mv (ki 0))] .ret)))⟩
noncomputable def HV:CI:=⟨false,2,8,[.tmp 4],(sf [oz 4 (.mv (.k (.s [])))] (sf [mt 5 0,mt 6 1,oz 7 (.call D3 [(.t 5),(.t 6)]),mt 4 7] .ret))⟩
noncomputable def Sr:AC:=(sf [oz 7 (.nxt (.t 6)),oz 8 (.ext (.t 7) 0)] (.seq (.cond (.t 8) .skip (.exit 0)) (.blk 1 (sf [oz 9 (.ext (.t 7) 1),oz 10 (.ext (.t 7) 2),mt 3 9,mt 4 10] (sf [mt 11 4,oz 12 (.bin .lss (.t 11) (.k (.i .i32 48))),mt 13 12,⟨some 14,some (13,false), .mv (.t 4)⟩,⟨some 15,some (13,false), .bin .gtr (.t 14) (.k (.i .i32 57))⟩,oz 16 (.pick (.t 13) (.k (.b true)) (.t 15))] (.cond (.t 16) (sf [mt 17 3,mt 2 17] .ret) .skip))))))
noncomputable def KN:CI:=⟨false,1,20,[.tmp 2],(sf [oz 2 (.mv (ki 0))] (.seq (sf [mt 5 0,oz 6 (.rng (.t 5))] (.blk 0 (.loop [0,6] Sr))) (sf [mt 18 0,oz 19 (.lens (.t 18)),mt 2 19] .ret)))⟩
noncomputable def El:CI:=⟨false,2,8,[.tmp 4],(sf [oz 4 (.mv (ki 0))] (sf [mt 5 0,mt 6 1,oz 7 (.call CH [(.t 5),(.t 6)]),mt 4 7] .ret))⟩
noncomputable def XF:AC:=(.seq (sf [mt 5 4,oz 6 (.bin .lss (.t 5) (ki 8))] (.cond (.t 6) .skip (.exit 0))) (.seq (.blk 1 (.regd [mt 9 4,mt 10 4,oz 11 (.bin .mul (ki 2) (.t 10)),oz 12 (.iaa 16 1 (.t 1) (.t 11)),oz 13 (.ld false 1 (.t 12)),oz 14 (.cvi .i64 (.t 13)),oz 15 (.bin .mul (ki 256) (.t 14)),mt 16 4,oz 17 (.bin .mul (ki 2) (.t 16)),oz 18 (.bin .add (.t 17) (ki 1)),oz 19 (.iaa 16 1 (.t 1) (.t 18)),oz 20 (.ld false 1 (.t 19)),oz 21 (.cvi .i64 (.t 20)),oz 22 (.bin .add (.t 15) (.t 21)),oz 23 (.iaa 8 1 (.t 3) (.t 9)),on (.st 1 (.t 23) (.t 22))] [some (0,0),some (0,0),some (0,0),some (0,0),some (0,0),some (0,0),some (0,0),some (0,0),some (0,0),some (0,0),some (0,0),some (0,0),some (0,0),some (0,0),some (0,0),none])) (rg false [mt 7 4,oz 8 (.bin .add (.t 7) (ki 1)),mt 4 8])))
noncomputable def P8:CI:=⟨false,1,25,[.cell true 8 2],(sf [oz 1 (.box 23 16 (.t 0)),oz 2 (.alloc 185 (ak 8 qj).zc)] (sf [oz 3 (.alloc 185 (ak 8 qj).zc)] (.seq (sf [oz 4 (.mv (ki 0))] (.blk 0 (.loop [1,2,3,4] XF))) (sf [oz 24 (.ld true 8 (.t 3)),on (.st 8 (.t 2) (.t 24))] .ret))))⟩
noncomputable def kL:AC:=(.seq (sf [mt 6 1,mt 7 5,oz 8 (.bin .add (.t 6) (.t 7)),oz 9 (.bin .lss (.t 8) (ki 8)),mt 10 9,⟨some 11,some (10,true), .mv (.t 1)⟩,⟨some 12,some (10,true), .mv (.t 5)⟩,⟨some 13,some (10,true), .bin .add (.t 11) (.t 12)⟩,⟨some 14,some (10,true), .iaa 8 1 (.t 2) (.t 13)⟩,⟨some 15,some (10,true), .ld false 1 (.t 14)⟩,⟨some 16,some (10,true), .bin .eql (.t 15) (ki 0)⟩,oz 17 (.pick (.t 10) (.t 16) (.k (.b false)))] (.cond (.t 17) .skip (.exit 0))) (.blk 1 (rg false [mt 18 5,oz 19 (.bin .add (.t 18) (ki 1)),mt 5 19])))
noncomputable def VU:CI:=⟨false,2,21,[.tmp 4],(sf [oz 2 (.box 185 8 (.t 0)),oz 4 (.mv (ki 0))] (sf [oz 5 (.mv (ki 0))] (.seq (.blk 0 (.loop [1,2,5] kL)) (sf [mt 20 5,mt 4 20] .ret))))⟩
noncomputable def kM:AC:=(.seq (sf [mt 10 8,mt 11 2,oz 12 (.bin .lss (.t 10) (.t 11))] (.cond (.t 12) .skip (.exit 0))) (.seq (.blk 1 (.seq (sf [mt 15 8,mt 16 1,oz 17 (.bin .gtr (.t 15) (.t 16))] (.cond (.t 17) (rg false [mt 18 7,oz 19 (.bin .add (.t 18) (.k (.s [58]))),mt 7 19]) .skip)) (rg false [mt 20 7,mt 21 8,oz 22 (.iaa 8 1 (.t 3) (.t 21)),oz 23 (.ld false 1 (.t 22)),oz 24 (.call GT [(.t 23)]),oz 25 (.bin .add (.t 20) (.t 24)),mt 7 25]))) (rg false [mt 13 8,oz 14 (.bin .add (.t 13) (ki 1)),mt 8 14])))
noncomputable def VV:CI:=⟨false,3,27,[.tmp 6],(sf [oz 3 (.box 185 8 (.t 0)),oz 6 (.mv (.k (.s [])))] (sf [oz 7 (.mv (.k (.s [])))] (.seq (sf [mt 9 1,mt 8 9] (.blk 0 (.loop [1,2,3,7,8] kM))) (sf [mt 26 7,mt 6 26] .ret))))⟩
noncomputable def aH:AC:=(.seq (sf [mt 6 5,oz 7 (.bin .lss (.t 6) (ki 16))] (.cond (.t 7) .skip (.exit 0))) (.seq (.blk 1 (sf [mt 10 5,oz 11 (.call Fe [(.t 10)]),oz 12 (.ixs (.t 11) (ki 0)),mt 13 0,oz 14 (.bin .eql (.t 12) (.t 13)),mt 15 14,⟨some 16,some (15,false), .mv (.t 1)⟩,⟨some 17,some (15,false), .mv (.t 16)⟩,⟨some 18,some (17,true), .mv (.t 5)⟩,⟨some 19,some (17,true), .bin .gtr (.t 18) (ki 9)⟩,⟨some 20,some (15,false), .pick (.t 17) (.t 19) (.k (.b false))⟩,⟨some 21,some (15,false), .mv (.t 20)⟩,⟨some 22,some (21,true), .mv (.t 5)⟩,⟨some 23,some (21,true), .call Fe [(.t 22)]⟩,⟨some 24,some (21,true), .ixs (.t 23) (ki 0)⟩,⟨some 25,some (21,true), .mv (.t 0)⟩,⟨some 26,some (21,true), .bin .add (.t 25) (.k (.i .u8 32))⟩,⟨some 27,some (21,true), .bin .eql (.t 24) (.t 26)⟩,⟨some 28,some (15,false), .pick (.t 21) (.t 27) (.k (.b false))⟩,oz 29 (.pick (.t 15) (.k (.b true)) (.t 28))] (.cond (.t 29) (sf [mt 30 5,mt 4 30] .ret) .skip))) (rg false [mt 8 5,oz 9 (.bin .add (.t 8) (ki 1)),mt 5 9])))
noncomputable def Ru:CI:=⟨false,2,31,[.tmp 4],(sf [oz 4 (.mv (ki 0))] (.seq (sf [oz 5 (.mv (ki 0))] (.blk 0 (.loop [0,1,5] aH))) (sf [oz 4 (.mv (ki (-1)))] .ret)))⟩
noncomputable def aC:AC:=(.seq (sf [mt 63 13,mt 64 9,oz 65 (.len (.t 64)),oz 66 (.bin .lss (.t 63) (.t 65))] (.cond (.t 66) .skip (.exit 0))) (.seq (.blk 1 (rg false [mt 69 5,mt 70 9,mt 71 13,oz 72 (.ias 1 (.t 70) (.t 71)),oz 73 (.ld false 1 (.t 72)),oz 74 (.bll 1 (aq 1 qj.zc) [(0,(.t 73))]),oz 75 (.app 3 1 8 (.t 69) (.t 74)),mt 5 75])) (rg false [mt 67 13,oz 68 (.bin .add (.t 67) (ki 1)),mt 13 68])))
noncomputable def aB:AC:=(.seq (sf [mt 76 5,oz 77 (.len (.t 76)),mt 78 11,oz 79 (.len (.t 78)),oz 80 (.bin .add (.t 77) (.t 79)),oz 81 (.bin .lss (.t 80) (ki 8))] (.cond (.t 81) .skip (.exit 2))) (.blk 3 (rg false [mt 82 5,oz 83 (.bll 1 (aq 1 qj.zc) [(0,(ki 0))]),oz 84 (.app 3 1 8 (.t 82) (.t 83)),mt 5 84])))
noncomputable def aA:AC:=(.seq (sf [mt 88 14,oz 89 (.bin .lss (.t 88) (ki 8))] (.cond (.t 89) .skip (.exit 4))) (.seq (.blk 5 (sf [mt 92 14,oz 93 (.bin .mul (ki 2) (.t 92)),mt 94 5,mt 95 14,oz 96 (.ias 1 (.t 94) (.t 95)),oz 97 (.ld false 1 (.t 96)),oz 98 (.bin .quo (.t 97) (ki 256)),oz 99 (.cvi .u8 (.t 98)),oz 100 (.iaa 16 1 (.t 4) (.t 93)),on (.st 1 (.t 100) (.t 99))] (rg false [mt 101 14,oz 102 (.bin .mul (ki 2) (.t 101)),oz 103 (.bin .add (.t 102) (ki 1)),mt 104 5,mt 105 14,oz 106 (.ias 1 (.t 104) (.t 105)),oz 107 (.ld false 1 (.t 106)),oz 108 (.bin .rem (.t 107) (ki 256)),oz 109 (.cvi .u8 (.t 108)),oz 110 (.iaa 16 1 (.t 4) (.t 103)),on (.st 1 (.t 110) (.t 109))]))) (rg false [mt 90 14,oz 91 (.bin .add (.t 90) (ki 1)),mt 14 91])))
noncomputable def Rn:CI:=⟨false,1,112,[.cell true 16 2, .tmp 3],(sf [oz 2 (.alloc 23 (ak 16 a7).zc),oz 3 (.mv (.k (.b false)))] (sf [oz 4 (.alloc 23 (ak 16 a7).zc)] (sf [oz 5 (.mv (.k (.nils)))] (sf [mt 15 0,oz 16 (.call Pv [(.t 15)]),mt 6 16] (.seq (sf [mt 17 6,oz 18 (.bin .lss (.t 17) (ki 0))] (.cond (.t 18) (sf [mt 20 0,oz 21 (.call Ju [(.t 20),(.k (.b true))]),mt 19 21,oz 22 (.ext (.t 19) 0),oz 23 (.ext (.t 19) 1),mt 7 22,mt 8 23] (.seq (sf [mt 24 8,oz 25 (.un .not (.t 24)),mt 26 25,⟨some 27,some (26,false), .mv (.t 7)⟩,⟨some 28,some (26,false), .len (.t 27)⟩,⟨some 29,some (26,false), .bin .neq (.t 28) (ki 8)⟩,oz 30 (.pick (.t 26) (.k (.b true)) (.t 29))] (.cond (.t 30) (sf [oz 31 (.ld true 16 (.t 4)),on (.st 16 (.t 2) (.t 31)),oz 3 (.mv (.k (.b false)))] .ret) .skip)) (rg false [mt 32 7,mt 5 32]))) (sf [mt 34 0,mt 35 6,oz 36 (.sls (.t 34) none (some (.t 35))),oz 37 (.call Ju [(.t 36),(.k (.b false))]),mt 33 37,oz 38 (.ext (.t 33) 0),oz 39 (.ext (.t 33) 1),mt 9 38,mt 10 39] (sf [mt 41 0,mt 42 6,oz 43 (.bin .add (.t 42) (ki 2)),oz 44 (.sls (.t 41) (some (.t 43)) none),oz 45 (.call Ju [(.t 44),(.k (.b true))]),mt 40 45,oz 46 (.ext (.t 40) 0),oz 47 (.ext (.t 40) 1),mt 11 46,mt 12 47] (.seq (sf [mt 48 10,oz 49 (.un .not (.t 48)),mt 50 49,⟨some 51,some (50,false), .mv (.t 12)⟩,⟨some 52,some (50,false), .un .not (.t 51)⟩,oz 53 (.pick (.t 50) (.k (.b true)) (.t 52)),mt 54 53,⟨some 55,some (54,false), .mv (.t 9)⟩,⟨some 56,some (54,false), .len (.t 55)⟩,⟨some 57,some (54,false), .mv (.t 11)⟩,⟨some 58,some (54,false), .len (.t 57)⟩,⟨some 59,some (54,false), .bin .add (.t 56) (.t 58)⟩,⟨some 60,some (54,false), .bin .gtr (.t 59) (ki 7)⟩,oz 61 (.pick (.t 54) (.k (.b true)) (.t 60))]
  (.cond (.t 61) (sf [oz 62 (.ld true 16 (.t 4)),on (.st 16 (.t 2) (.t 62)),oz 3 (.mv (.k (.b false)))] .ret) .skip)) (.seq (sf [oz 13 (.mv (ki 0))] (.blk 0 (.loop [2,4,5,9,11,13] aC))) (.seq (.blk 2 (.loop [2,4,5,11] aB)) (rg false [mt 85 5,mt 86 11,oz 87 (.app 3 1 8 (.t 85) (.t 86)),mt 5 87])))))))) (.seq (sf [oz 14 (.mv (ki 0))] (.blk 4 (.loop [2,4,5,14] aA))) (sf [oz 111 (.ld true 16 (.t 4)),on (.st 16 (.t 2) (.t 111)),oz 3 (.mv (.k (.b true)))] .ret)))))))⟩
noncomputable def aD:AC:=(.seq (sf [mt 15 6,oz 16 (.bin .lss (.t 15) (ki 4))] (.cond (.t 16) .skip (.exit 0))) (.seq (.blk 1 (sf [mt 20 5,mt 21 6,oz 22 (.ias 1 (.t 20) (.t 21)),oz 23 (.ld false 1 (.t 22)),oz 24 (.call Jv [(.t 23),(.k (.i .u64 255))]),mt 19 24,oz 25 (.ext (.t 19) 0),oz 26 (.ext (.t 19) 1),mt 7 25,mt 8 26] (.seq (sf [mt 27 8,oz 28 (.bin .neq (.t 27) (ki 0))] (.cond (.t 28) (sf [oz 29 (.bld (ak 4 a7).zc []),mt 30 8,on (.st 4 (.t 2) (.t 29)),mt 3 30] .ret) .skip)) (rg false [mt 31 6,mt 32 7,oz 33 (.cvi .u8 (.t 32)),oz 34 (.iaa 4 1 (.t 4) (.t 31)),on (.st 1 (.t 34) (.t 33))])))) (rg false [mt 17 6,oz 18 (.bin .add (.t 17) (ki 1)),mt 6 18])))
noncomputable def Ro:CI:=⟨false,1,36,[.cell true 4 2, .tmp 3],(sf [oz 2 (.alloc 156 (ak 4 a7).zc),oz 3 (.mv (ki 0))] (sf [oz 4 (.alloc 156 (ak 4 a7).zc)] (sf [mt 9 0,oz 10 (.call E9 [(.t 9),(.k (.i .u8 46))]),mt 5 10] (.seq (sf [mt 11 5,oz 12 (.len (.t 11)),oz 13 (.bin .neq (.t 12) (ki 4))] (.cond (.t 13) (sf [oz 14 (.bld (ak 4 a7).zc []),on (.st 4 (.t 2) (.t 14)),oz 3 (.mv (ki 5))] .ret) .skip)) (.seq (sf [oz 6 (.mv (ki 0))] (.blk 0 (.loop [2,4,5,6] aD))) (sf [oz 35 (.ld true 4 (.t 4)),on (.st 4 (.t 2) (.t 35)),oz 3 (.mv (ki 0))] .ret))))))⟩
noncomputable def pN:AC:=(.seq (sf [mt 20 5,mt 21 0,oz 22 (.len (.t 21)),oz 23 (.bin .lss (.t 20) (.t 22))] (.cond (.t 23) .skip (.exit 0))) (.seq (.blk 1 (rg false [mt 26 5,mt 27 0,mt 28 5,oz 29 (.ias 1 (.t 27) (.t 28)),oz 30 (.ld false 1 (.t 29)),oz 31 (.fa 1 (.t 4)),oz 32 (.iaa 16 1 (.t 31) (.t 26)),on (.st 1 (.t 32) (.t 30))])) (rg false [mt 24 5,oz 25 (.bin .add (.t 24) (ki 1)),mt 5 25])))
noncomputable def ZZ:CI:=⟨false,1,34,[.cell true 17 2, .tmp 3],(sf [oz 2 (.alloc 25 Aw.zc),oz 3 (.mv (.k (.b false)))] (sf [oz 4 (.alloc 25 Aw.zc)] (.seq (sf [mt 6 0,oz 7 (.len (.t 6)),oz 8 (.bin .neq (.t 7) (ki 4)),mt 9 8,⟨some 10,some (9,true), .mv (.t 0)⟩,⟨some 11,some (9,true), .len (.t 10)⟩,⟨some 12,some (9,true), .bin .neq (.t 11) (ki 16)⟩,oz 13 (.pick (.t 9) (.t 12) (.k (.b false)))] (.cond (.t 13) (sf [oz 14 (.ld true 17 (.t 4)),on (.st 17 (.t 2) (.t 14)),oz 3 (.mv (.k (.b false)))] .ret) .skip)) (sf [oz 15 (.fa 0 (.t 4)),on (.st 1 (.t 15) (ki 4))] (.seq (sf [mt 16 0,oz 17 (.len (.t 16)),oz 18 (.bin .eql (.t 17) (ki 16))] (.cond (.t 18) (rg false [oz 19 (.fa 0 (.t 4)),on (.st 1 (.t 19) (ki 6))]) .skip)) (.seq (sf [oz 5 (.mv (ki 0))] (.blk 0 (.loop [0,2,4,5] pN))) (sf [oz 33 (.ld true 17 (.t 4)),on (.st 17 (.t 2) (.t 33)),oz 3 (.mv (.k (.b true)))] .ret)))))))⟩
noncomputable def Qq:AC:=(.seq (sf [mt 34 10,mt 35 3,oz 36 (.bin .lss (.t 34) (.t 35))] (.cond (.t 36) .skip (.exit 0))) (.blk 1 (sf [mt 37 0,mt 38 1,oz 39 (.call Fs [(.t 37),(.t 38)]),mt 11 39] (.seq (sf [mt 40 11,oz 41 (.bin .lss (.t 40) (ki 0))] (.cond (.t 41) (.exit 0) .skip)) (sf [mt 42 9,mt 43 10,mt 44 0,mt 45 11,mt 46 2,oz 47 (.bin .add (.t 45) (.t 46)),oz 48 (.sls (.t 44) none (some (.t 47))),oz 49 (.ias 1 (.t 42) (.t 43)),on (.st 1 (.t 49) (.t 48))] (sf [mt 50 0,mt 51 11,mt 52 1,oz 53 (.lens (.t 52)),oz 54 (.bin .add (.t 51) (.t 53)),oz 55 (.sls (.t 50) (some (.t 54)) none),mt 0 55] (rg false [mt 56 10,oz 57 (.bin .add (.t 56) (ki 1)),mt 10 57])))))))
noncomputable def Jo:CI:=⟨false,4,66,[.tmp 8],(sf [oz 8 (.mv (.k (.nils)))] (.seq (sf [mt 12 3,oz 13 (.bin .eql (.t 12) (ki 0))] (.cond (.t 13) (sf [oz 8 (.mv (.k (.nils)))] .ret) .skip)) (.seq (sf [mt 14 1,oz 15 (.bin .eql (.t 14) (.k (.s [])))] (.cond (.t 15) (sf [mt 16 0,mt 17 3,oz 18 (.call GR [(.t 16),(.t 17)]),mt 8 18] .ret) .skip)) (.seq (sf [mt 19 3,oz 20 (.bin .lss (.t 19) (ki 0))] (.cond (.t 20) (rg false [mt 21 0,mt 22 1,oz 23 (.call Ie [(.t 21),(.t 22)]),oz 24 (.bin .add (.t 23) (ki 1)),mt 3 24]) .skip)) (sf [mt 25 3,mt 26 0,oz 27 (.lens (.t 26)),oz 28 (.bin .add (.t 27) (ki 1)),oz 29 (.mnx false (.t 25) (.t 28)),mt 3 29] (sf [mt 30 3,oz 31 (.mks 9 1 16 Ak.zc (.t 30) (.t 30)),mt 9 31] (sf [mt 32 3,oz 33 (.bin .sub (.t 32) (ki 1)),mt 3 33] (sf [oz 10 (.mv (ki 0))] (.seq (.blk 0 (.loop [0,1,2,3,9,10] Qq)) (sf [mt 58 9,mt 59 10,mt 60 0,oz 61 (.ias 1 (.t 58) (.t 59)),on (.st 1 (.t 61) (.t 60))] (sf [mt 62 9,mt 63 10,oz 64 (.bin .add (.t 63) (ki 1)),oz 65 (.sll 1 (.t 62) none (some (.t 64))),mt 8 65] .ret)))))))))))⟩
noncomputable def DX:CI:=⟨false,2,16,[.tmp 4],(sf [oz 4 (.mv (.k (.s [])))] (.seq (sf [mt 5 0,mt 6 1,oz 7 (.call Cs [(.t 5),(.t 6)])] (.cond (.t 7) (sf [mt 8 0,mt 9 0,oz 10 (.lens (.t 9)),mt 11 1,oz 12 (.lens (.t 11)),oz 13 (.bin .sub (.t 10) (.t 12)),oz 14 (.sls (.t 8) none (some (.t 13))),mt 4 14] .ret) .skip)) (sf [mt 15 0,mt 4 15] .ret)))⟩
noncomputable def R2:CI:=⟨false,1,10,[.cell true 17 2],(sf [oz 1 (.box 156 4 (.t 0)),oz 2 (.alloc 25 Aw.zc)] (sf [oz 4 (.bld Aw.zc [(0,1,(ki 4))]),oz 3 (.alloc 25 Aw.zc),on (.st 17 (.t 3) (.t 4))] (.seq (.regd [oz 5 (.fa 1 (.t 3)),oz 6 (.sla 16 1 (.t 5) none none),oz 7 (.sla 4 1 (.t 1) none none),oz 8 (.cpy 1 (.t 6) (.t 7))] [some (0,0),some (0,0),some (0,0),none]) (sf [oz 9 (.ld true 17 (.t 3)),on (.st 17 (.t 2) (.t 9))] .ret))))⟩
noncomputable def LU:CI:=⟨false,2,8,[.tmp 4],(sf [oz 4 (.mv (ki 0))] (sf [mt 5 0,mt 6 1,oz 7 (.call CM [(.t 5),(.t 6)]),mt 4 7] .ret))⟩
noncomputable def Oe:CI:=⟨false,1,11,[.tmp 2, .tmp 3],(sf [oz 2 (.mv (.k (.i .u16 0))),oz 3 (.mv (.k (.b false)))] (sf [mt 5 0,oz 6 (.call EG [(.k (.s [48,49,50,51,52,53,54,55,56,57,97,98,99,100,101,102])),(.t 5)]),mt 4 6] (sf [mt 7 4,oz 8 (.cvi .u16 (.t 7)),mt 9 4,oz 10 (.bin .geq (.t 9) (ki 0)),mt 2 8,mt 3 10] .ret)))⟩
noncomputable def aI:AC:=(sf [oz 8 (.bin .lss (.t 7) (ki 4))] (.seq (.cond (.t 8) .skip (.exit 0)) (.seq (.blk 1 (sf [mt 9 7,oz 10 (.ixa 4 1 false (.t 6) (.t 7)),mt 4 9,mt 5 10] (rg false [mt 11 4,mt 12 5,oz 13 (.cvi .u64 (.t 12)),oz 14 (.call FL [(.t 13)]),oz 15 (.iaa 4 1 (.t 3) (.t 11)),on (.st 1 (.t 15) (.t 14))]))) (rg false [oz 16 (.bin .add (.t 7) (ki 1)),mt 7 16]))))
noncomputable def Rw:CI:=⟨false,1,19,[.tmp 2],(sf [oz 1 (.box 156 4 (.t 0)),oz 2 (.mv (.k (.s [])))] (sf [oz 3 (.alloc 228 (ak 4 Ak).zc)] (.seq (sf [oz 6 (.ld true 4 (.t 1)),oz 7 (.mv (ki 0))] (.blk 0 (.loop [3,6,7] aI))) (sf [oz 17 (.sla 4 1 (.t 3) none none),oz 18 (.call FK [(.t 17),(.k (.s [46]))]),mt 2 18] .ret))))⟩
noncomputable def PE:CI:=⟨false,1,27,[.tmp 2],(sf [oz 1 (.box 23 16 (.t 0)),oz 2 (.mv (.k (.s [])))] (sf [oz 6 (.ld true 16 (.t 1)),oz 7 (.call IW [(.t 6)]),oz 3 (.alloc 229 (ak 8 dr).zc),on (.st 8 (.t 3) (.t 7))] (sf [oz 9 (.ld true 8 (.t 3)),oz 10 (.call Il [(.t 9)]),mt 8 10,oz 11 (.ext (.t 8) 0),oz 12 (.ext (.t 8) 1),mt 4 11,mt 5 12] (.seq (sf [mt 13 5,oz 14 (.bin .lss (.t 13) (ki 2))] (.cond (.t 14) (sf [oz 15 (.sla 8 1 (.t 3) none none),oz 16 (.call Ik [(.t 15)]),mt 2 16] .ret) .skip)) (sr [mt 17 4,oz 18 (.sla 8 1 (.t 3) none (some (.t 17))),oz 19 (.call Ik [(.t 18)]),oz 20 (.bin .add (.t 19) (.k (.s [58,58]))),mt 21 4,mt 22 5,oz 23 (.bin .add (.t 21) (.t 22)),oz 24 (.sla 8 1 (.t 3) (some (.t 23)) none),oz 25 (.call Ik [(.t 24)]),oz 26 (.bin .add (.t 20) (.t 25)),mt 2 26] .ret)))))⟩
noncomputable def Ix:CI:=⟨false,2,11,[.tmp 4, .tmp 5],(sf [oz 4 (.mv (.k (.s []))),oz 5 (.mv (.k (.b false)))] (sf [mt 6 0,mt 7 1,oz 8 (.call CW [(.t 6),(.t 7)]),oz 9 (.ext (.t 8) 0),oz 10 (.ext (.t 8) 1),mt 4 9,mt 5 10] .ret))⟩
noncomputable def NY:CI:=⟨false,2,13,[.tmp 4, .tmp 5, .tmp 6],(sf [oz 4 (.mv (.k (.s []))),oz 5 (.mv (.k (.s []))),oz 6 (.mv (.k (.b false)))] (sf [mt 7 0,mt 8 1,oz 9 (.call DS [(.t 7),(.t 8)]),oz 10 (.ext (.t 9) 0),oz 11 (.ext (.t 9) 1),oz 12 (.ext (.t 9) 2),mt 4 10,mt 5 11,mt 6 12] .ret))⟩
noncomputable def Wa:AC:=(sf [oz 27 (.bin .lss (.t 26) (ki 8))] (.seq (.cond (.t 27) .skip (.exit 0)) (.seq (.blk 1 (sf [mt 28 26,oz 29 (.ixa 8 1 false (.t 25) (.t 26)),mt 8 28,mt 9 29] (rg false [mt 30 8,oz 31 (.bin .mul (ki 2) (.t 30)),mt 32 8,oz 33 (.bin .mul (ki 2) (.t 32)),oz 34 (.bin .add (.t 33) (ki 1)),mt 35 9,oz 36 (.bin .shr (.t 35) (.k (.i .u64 8))),oz 37 (.cvi .u8 (.t 36)),mt 38 9,oz 39 (.cvi .u8 (.t 38)),oz 40 (.iaa 16 1 (.t 7) (.t 31)),on (.st 1 (.t 40) (.t 37)),oz 41 (.iaa 16 1 (.t 7) (.t 34)),on (.st 1 (.t 41) (.t 39))]))) (rg false [oz 42 (.bin .add (.t 26) (ki 1)),mt 26 42]))))
noncomputable def Oh:CI:=⟨false,1,44,[.cell true 16 2, .tmp 3],(sf [oz 2 (.alloc 23 (ak 16 a7).zc),oz 3 (.mv (ki 0))] (sf [oz 10 (.bld AD.zc [(9,1,(ki (-1)))]),oz 11 (.box 237 10 (.t 10)),mt 4 11] (.seq (sf [mt 12 4,mt 13 0,oz 14 (.call GV [(.t 12),(.t 13)]),oz 15 (.un .not (.t 14))] (.cond (.t 15) (sf [oz 16 (.bld (ak 16 a7).zc []),on (.st 16 (.t 2) (.t 16)),oz 3 (.mv (ki 5))] .ret) .skip)) (sf [mt 18 4,oz 19 (.call Gg [(.t 18)]),mt 17 19,oz 20 (.ext (.t 17) 0),oz 21 (.ext (.t 17) 1),oz 5 (.alloc 229 (ak 8 dr).zc),on (.st 8 (.t 5) (.t 20)),mt 6 21] (.seq (sf [mt 22 6,oz 23 (.un .not (.t 22))] (.cond (.t 23) (sf [oz 24 (.bld (ak 16 a7).zc []),on (.st 16 (.t 2) (.t 24)),oz 3 (.mv (ki 5))] .ret) .skip)) (sf [oz 7 (.alloc 23 (ak 16 a7).zc)] (.seq (sf [oz 25 (.ld true 8 (.t 5)),oz 26 (.mv (ki 0))] (.blk 0 (.loop [2,7,25,26] Wa))) (sf [oz 43 (.ld true 16 (.t 7)),on (.st 16 (.t 2) (.t 43)),oz 3 (.mv (ki 0))] .ret))))))))⟩
noncomputable def TH:CI:=⟨false,1,5,[.cell true 17 2],(sf [oz 1 (.box 23 16 (.t 0)),oz 2 (.alloc 25 Aw.zc)] (sf [oz 3 (.ld true 16 (.t 1)),oz 4 (.bld Aw.zc [(0,1,(ki 6)),(1,16,(.t 3))]),on (.st 17 (.t 2) (.t 4))] .ret))⟩
noncomputable def XJ:AC:=(sf [oz 19 (.bin .lss (.t 18) (.t 17))] (.seq (.cond (.t 19) .skip (.exit 0)) (.seq (.blk 1 (sf [mt 20 18,oz 21 (.ias 1 (.t 16) (.t 18)),oz 22 (.ld false 1 (.t 21)),mt 6 20,mt 7 22] (sf [mt 24 7,oz 25 (.call FM [(.t 24),(.k (.i .u64 255))]),mt 23 25,oz 26 (.ext (.t 23) 0),oz 27 (.ext (.t 23) 1),mt 8 26,mt 9 27] (.seq (sf [mt 28 9,oz 29 (.bin .neq (.t 28) (ki 0))] (.cond (.t 29) (sf [oz 30 (.bld (ak 4 a7).zc []),mt 31 9,on (.st 4 (.t 2) (.t 30)),mt 3 31] .ret) .skip)) (rg false [mt 32 6,mt 33 8,oz 34 (.cvi .u8 (.t 33)),oz 35 (.iaa 4 1 (.t 5) (.t 32)),on (.st 1 (.t 35) (.t 34))]))))) (rg false [oz 36 (.bin .add (.t 18) (ki 1)),mt 18 36]))))
noncomputable def PC:CI:=⟨false,1,38,[.cell true 4 2, .tmp 3],(sf [oz 2 (.alloc 156 (ak 4 a7).zc),oz 3 (.mv (ki 0))] (sf [mt 10 0,oz 11 (.call HQ [(.t 10),(.k (.i .u8 46))]),mt 4 11] (sf [oz 5 (.alloc 156 (ak 4 a7).zc)] (.seq (sf [mt 12 4,oz 13 (.len (.t 12)),oz 14 (.bin .neq (.t 13) (ki 4))] (.cond (.t 14) (sf [oz 15 (.ld true 4 (.t 5)),on (.st 4 (.t 2) (.t 15)),oz 3 (.mv (ki 5))] .ret) .skip)) (.seq (sf [mt 16 4,oz 17 (.len (.t 16)),oz 18 (.mv (ki 0))] (.blk 0 (.loop [2,5,16,17,18] XJ))) (sf [oz 37 (.ld true 4 (.t 5)),on (.st 4 (.t 2) (.t 37)),oz 3 (.mv (ki 0))] .ret))))))⟩
noncomputable def EM:CI:=⟨false,2,32,[.tmp 4],(sf [oz 4 (.mv (.k (.s [])))] (.seq (sf [mt 9 1,oz 10 (.bin .eql (.t 9) (ki 10))] (.cond (.t 10) (.seq (sf [mt 11 0,oz 12 (.bin .lss (.t 11) (.k (.i .u64 100)))] (.cond (.t 12) (sf [mt 13 0,oz 14 (.cvi .i64 (.t 13)),oz 15 (.call Ey [(.t 14)]),mt 4 15] .ret) .skip)) (sf [oz 5 (.alloc 240 (ak 24 a7).zc)] (sf [mt 16 0,oz 17 (.call DA [(.t 16)]),mt 6 17] (sf [mt 18 6,oz 19 (.sla 24 1 (.t 5) none (some (.t 18))),mt 20 0,oz 21 (.call Ei [(.t 19),(.t 20)])] (sf [mt 22 6,oz 23 (.sla 24 1 (.t 5) none (some (.t 22))),oz 24 (.cvs (.t 23)),mt 4 24] .ret))))) .skip)) (sf [mt 26 0,mt 27 1,oz 28 (.call KI [(.k (.nils)),(.t 26),(.t 27),(.k (.b false)),(.k (.b false))]),mt 25 28,oz 29 (.ext (.t 25) 0),oz 30 (.ext (.t 25) 1),mt 7 29,mt 8 30] (sf [mt 31 8,mt 4 31] .ret))))⟩
noncomputable def Rv:CI:=⟨false,1,14,[.tmp 2],(sf [oz 2 (.mv (.k (.s [])))] (.seq (sf [mt 3 0,oz 4 (.bin .lss (.t 3) (ki 16))] (.cond (.t 4) (sf [mt 5 0,oz 6 (.call Fe [(.t 5)]),mt 2 6] .ret) .skip)) (sf [mt 7 0,oz 8 (.bin .quo (.t 7) (ki 16)),oz 9 (.call GT [(.t 8)]),mt 10 0,oz 11 (.bin .rem (.t 10) (ki 16)),oz 12 (.call Fe [(.t 11)]),oz 13 (.bin .add (.t 9) (.t 12)),mt 2 13] .ret)))⟩
noncomputable def kN:AC:=(.seq (sf [mt 4 3,oz 5 (.bin .add (.t 4) (ki 1)),mt 6 0,oz 7 (.lens (.t 6)),oz 8 (.bin .lss (.t 5) (.t 7))] (.cond (.t 8) .skip (.exit 0))) (.seq (.blk 1 (sf [mt 11 0,mt 12 3,oz 13 (.ixs (.t 11) (.t 12)),oz 14 (.bin .eql (.t 13) (.k (.i .u8 58))),mt 15 14,⟨some 16,some (15,true), .mv (.t 0)⟩,⟨some 17,some (15,true), .mv (.t 3)⟩,⟨some 18,some (15,true), .bin .add (.t 17) (ki 1)⟩,⟨some 19,some (15,true), .ixs (.t 16) (.t 18)⟩,⟨some 20,some (15,true), .bin .eql (.t 19) (.k (.i .u8 58))⟩,oz 21 (.pick (.t 15) (.t 20) (.k (.b false)))] (.cond (.t 21) (sf [mt 22 3,mt 2 22] .ret) .skip))) (rg false [mt 9 3,oz 10 (.bin .add (.t 9) (ki 1)),mt 3 10])))
noncomputable def VW:CI:=⟨false,1,23,[.tmp 2],(sf [oz 2 (.mv (ki 0))] (.seq (sf [oz 3 (.mv (ki 0))] (.blk 0 (.loop [0,3] kN))) (sf [oz 2 (.mv (ki (-1)))] .ret)))⟩
noncomputable def dB:AC:=(.seq (sf [mt 16 8,mt 17 7,oz 18 (.len (.t 17)),oz 19 (.bin .lss (.t 16) (.t 18))] (.cond (.t 19) .skip (.exit 0))) (.seq (.blk 1 (sf [mt 22 7,mt 23 8,oz 24 (.ias 1 (.t 22) (.t 23)),oz 25 (.ld false 1 (.t 24)),oz 26 (.call Ih [(.t 25)]),mt 9 26] (.seq (sf [mt 27 9,oz 28 (.bin .geq (.t 27) (ki 0))] (.cond (.t 28) (sf [mt 29 6,mt 30 9,oz 31 (.bll 1 (aq 1 qj.zc) [(0,(.t 30))]),oz 32 (.app 3 1 8 (.t 29) (.t 31)),mt 6 32] (.exit 1)) .skip)) (sf [mt 34 7,mt 35 8,oz 36 (.ias 1 (.t 34) (.t 35)),oz 37 (.ld false 1 (.t 36)),oz 38 (.call JP [(.t 37)]),mt 33 38,oz 39 (.ext (.t 33) 0),oz 40 (.ext (.t 33) 1),oz 10 (.alloc 156 (ak 4 a7).zc),on (.st 4 (.t 10) (.t 39)),mt 11 40] (.seq (sf [mt 41 11,oz 42 (.bin .neq (.t 41) (ki 0)),mt 43 42,⟨some 44,some (43,false), .mv (.t 1)⟩,⟨some 45,some (43,false), .un .not (.t 44)⟩,oz 46 (.pick (.t 43) (.k (.b true)) (.t 45)),mt 47 46,⟨some 48,some (47,false), .mv (.t 8)⟩,⟨some 49,some (47,false), .mv (.t 7)⟩,⟨some 50,some (47,false), .len (.t 49)⟩,⟨some 51,some (47,false), .bin .sub (.t 50) (ki 1)⟩,⟨some 52,some (47,false), .bin .lss (.t 48) (.t 51)⟩,oz 53 (.pick (.t 47) (.k (.b true)) (.t 52))] (.cond (.t 53) (sf [oz 4 (.mv (.k (.nils))),oz 5 (.mv (.k (.b false)))] .ret) .skip)) (rg false [mt 54 6,oz 55 (.iaa 4 1 (.t 10) (ki 0)),oz 56 (.ld false 1 (.t 55)),oz 57 (.cvi .i64 (.t 56)),oz 58 (.bin .mul (ki 256) (.t 57)),oz 59 (.iaa 4 1 (.t 10) (ki 1)),oz 60 (.ld false 1 (.t 59)),oz 61 (.cvi .i64 (.t 60)),oz 62 (.bin .add (.t 58) (.t 61)),oz 63 (.iaa 4 1 (.t 10) (ki 2)),oz 64 (.ld false 1 (.t 63)),oz 65 (.cvi .i64 (.t 64)),oz 66 (.bin .mul (ki 256) (.t 65)),oz 67 (.iaa 4 1 (.t 10) (ki 3)),oz 68 (.ld false 1 (.t 67)),oz 69 (.cvi .i64 (.t 68)),oz 70 (.bin .add (.t 66) (.t 69)),oz 71 (.bll 1 (aq 2 qj.zc) [(0,(.t 62)),(1,(.t 70))]),oz 72 (.app 3 1 8 (.t 54) (.t 71)),mt 6 72]))))))
 (rg false [mt 20 8,oz 21 (.bin .add (.t 20) (ki 1)),mt 8 21])))
noncomputable def T7:CI:=⟨false,2,74,[.tmp 4, .tmp 5],(sf [oz 4 (.mv (.k (.nils))),oz 5 (.mv (.k (.b false)))] (.seq (sf [mt 12 0,oz 13 (.bin .eql (.t 12) (.k (.s [])))] (.cond (.t 13) (sf [oz 4 (.mv (.k (.nils))),oz 5 (.mv (.k (.b true)))] .ret) .skip)) (sf [oz 6 (.mv (.k (.nils)))] (sf [mt 14 0,oz 15 (.call E9 [(.t 14),(.k (.i .u8 58))]),mt 7 15] (.seq (sf [oz 8 (.mv (ki 0))] (.blk 0 (.loop [1,6,7,8] dB))) (sf [mt 73 6,mt 4 73,oz 5 (.mv (.k (.b true)))] .ret))))))⟩
noncomputable def Rf:AC:=(.seq (sf [mt 22 7,mt 23 1,oz 24 (.bin .sub (.t 23) (ki 1)),oz 25 (.bin .lss (.t 22) (.t 24))] (.cond (.t 25) .skip (.exit 0))) (.seq (.blk 1 (sf [mt 29 0,oz 30 (.call CO [(.t 29)]),mt 28 30,oz 31 (.ext (.t 28) 0),oz 32 (.ext (.t 28) 1),mt 8 31,mt 9 32] (sf [mt 33 6,mt 34 7,mt 35 0,mt 36 9,oz 37 (.sls (.t 35) none (some (.t 36))),oz 38 (.ias 1 (.t 33) (.t 34)),on (.st 1 (.t 38) (.t 37))] (rg false [mt 39 0,mt 40 9,oz 41 (.sls (.t 39) (some (.t 40)) none),mt 0 41])))) (rg false [mt 26 7,oz 27 (.bin .add (.t 26) (ki 1)),mt 7 27])))
noncomputable def Kk:CI:=⟨false,2,50,[.tmp 4],(sf [oz 4 (.mv (.k (.nils)))] (sf [mt 10 0,oz 11 (.call Cr [(.t 10)]),mt 5 11] (.seq (sf [mt 12 1,oz 13 (.bin .lss (.t 12) (ki 0)),mt 14 13,⟨some 15,some (14,false), .mv (.t 1)⟩,⟨some 16,some (14,false), .mv (.t 5)⟩,⟨some 17,some (14,false), .bin .gtr (.t 15) (.t 16)⟩,oz 18 (.pick (.t 14) (.k (.b true)) (.t 17))] (.cond (.t 18) (rg false [mt 19 5,mt 1 19]) .skip)) (sf [mt 20 1,oz 21 (.mks 9 1 16 Ak.zc (.t 20) (.t 20)),mt 6 21] (.seq (sf [oz 7 (.mv (ki 0))] (.blk 0 (.loop [0,1,6,7] Rf))) (.seq (sf [mt 42 1,oz 43 (.bin .gtr (.t 42) (ki 0))] (.cond (.t 43) (rg false [mt 44 6,mt 45 1,oz 46 (.bin .sub (.t 45) (ki 1)),mt 47 0,oz 48 (.ias 1 (.t 44) (.t 46)),on (.st 1 (.t 48) (.t 47))]) .skip)) (sf [mt 49 6,mt 4 49] .ret)))))))⟩
noncomputable def T0:AC:=(.blk 1 (sf [mt 20 0,mt 21 1,oz 22 (.call Fs [(.t 20),(.t 21)]),mt 6 22] (.seq (sf [mt 23 6,oz 24 (.bin .eql (.t 23) (ki (-1)))] (.cond (.t 24) (sf [mt 25 5,mt 4 25] .ret) .skip)) (sf [mt 26 5,oz 27 (.bin .add (.t 26) (ki 1)),mt 5 27] (rg false [mt 28 0,mt 29 6,mt 30 1,oz 31 (.lens (.t 30)),oz 32 (.bin .add (.t 29) (.t 31)),oz 33 (.sls (.t 28) (some (.t 32)) none),mt 0 33])))))
noncomputable def LV:CI:=⟨false,2,34,[.tmp 4],(sf [oz 4 (.mv (ki 0))] (.seq (sf [mt 7 1,oz 8 (.lens (.t 7)),oz 9 (.bin .eql (.t 8) (ki 0))] (.cond (.t 9) (sf [mt 10 0,oz 11 (.call Cr [(.t 10)]),oz 12 (.bin .add (.t 11) (ki 1)),mt 4 12] .ret) .skip)) (.seq (sf [mt 13 1,oz 14 (.lens (.t 13)),oz 15 (.bin .eql (.t 14) (ki 1))] (.cond (.t 15) (sf [mt 16 0,mt 17 1,oz 18 (.ixs (.t 17) (ki 0)),oz 19 (.call Dp [(.t 16),(.t 18)]),mt 4 19] .ret) .skip)) (sf [oz 5 (.mv (ki 0))] (.blk 0 (.loop [0,1,5] T0))))))⟩
noncomputable def UJ:AC:=(sf [oz 8 (.bin .lss (.t 7) (ki 8))] (.seq (.cond (.t 8) .skip (.exit 0)) (.seq (.blk 1 (sf [mt 9 7,mt 4 9] (sf [mt 11 4,oz 12 (.bin .mul (ki 2) (.t 11)),mt 13 4,oz 14 (.bin .mul (ki 2) (.t 13)),oz 15 (.bin .add (.t 14) (ki 2)),oz 16 (.sla 16 1 (.t 1) (some (.t 12)) (some (.t 15))),oz 17 (.call IV [(.t 16)]),mt 10 17,oz 18 (.ext (.t 10) 0),oz 19 (.ext (.t 10) 1),mt 5 18,mt 6 19] (rg false [mt 20 4,mt 21 5,oz 22 (.cvi .u16 (.t 21)),oz 23 (.iaa 8 1 (.t 3) (.t 20)),on (.st 1 (.t 23) (.t 22))])))) (rg false [oz 24 (.bin .add (.t 7) (ki 1)),mt 7 24]))))
noncomputable def Nf:CI:=⟨false,1,26,[.cell true 8 2],(sf [oz 1 (.box 23 16 (.t 0)),oz 2 (.alloc 229 (ak 8 dr).zc)] (sf [oz 3 (.alloc 229 (ak 8 dr).zc)] (.seq (sf [oz 7 (.mv (ki 0))] (.blk 0 (.loop [1,2,3,7] UJ))) (sf [oz 25 (.ld true 8 (.t 3)),on (.st 8 (.t 2) (.t 25))] .ret))))⟩
noncomputable def TG:AC:=(sf [oz 9 (.bin .lss (.t 8) (ki 8))] (.seq (.cond (.t 9) .skip (.exit 0)) (.seq (.blk 1 (sf [mt 10 8,oz 11 (.ixa 8 1 false (.t 7) (.t 8)),mt 5 10,mt 6 11] (.seq (sf [mt 12 6,oz 13 (.bin .neq (.t 12) (.k (.i .u16 0)))] (.cond (.t 13) (sf [oz 4 (.mv (ki 0))] (.exit 1)) .skip)) (sf [mt 14 4,oz 15 (.bin .add (.t 14) (ki 1)),mt 4 15] (sf [mt 16 4,mt 17 3,oz 18 (.bin .gtr (.t 16) (.t 17))] (.cond (.t 18) (rg false [mt 19 5,oz 20 (.bin .add (.t 19) (ki 1)),mt 21 4,oz 22 (.bin .sub (.t 20) (.t 21)),mt 23 4,mt 2 22,mt 3 23]) .skip)))))) (rg false [oz 24 (.bin .add (.t 8) (ki 1)),mt 8 24]))))
noncomputable def LZ:CI:=⟨false,1,27,[.tmp 2, .tmp 3],(sf [oz 1 (.box 229 8 (.t 0)),oz 2 (.mv (ki 0)),oz 3 (.mv (ki 0))] (sf [oz 4 (.mv (ki 0))] (.seq (sf [oz 7 (.ld true 8 (.t 1)),oz 8 (.mv (ki 0))] (.blk 0 (.loop [2,3,4,7,8] TG))) (sf [mt 25 2,mt 26 3,mt 2 25,mt 3 26] .ret))))⟩
noncomputable def aJ:AC:=(sf [oz 9 (.bin .lss (.t 8) (.t 7))] (.seq (.cond (.t 9) .skip (.exit 0)) (.seq (.blk 1 (sf [oz 10 (.ias 1 (.t 6) (.t 8)),oz 11 (.ld false 1 (.t 10)),mt 5 11] (rg false [mt 12 3,mt 13 5,oz 14 (.call JT [(.t 13)]),oz 15 (.bll 1 (aq 1 Ak.zc) [(0,(.t 14))]),oz 16 (.app 9 1 16 (.t 12) (.t 15)),mt 3 16]))) (rg false [oz 17 (.bin .add (.t 8) (ki 1)),mt 8 17]))))
noncomputable def R0:CI:=⟨false,1,20,[.tmp 2],(sf [oz 2 (.mv (.k (.s [])))] (sf [oz 3 (.mv (.k (.nils)))] (.seq (sf [mt 6 0,oz 7 (.len (.t 6)),oz 8 (.mv (ki 0))] (.blk 0 (.loop [3,6,7,8] aJ))) (sf [mt 18 3,oz 19 (.call FK [(.t 18),(.k (.s [58]))]),mt 2 19] .ret))))⟩
noncomputable def Eo:CI:=⟨false,2,15,[.tmp 4, .tmp 5],(sf [oz 4 (.mv (.k (.s []))),oz 5 (.mv (.k (.b false)))] (.seq (sf [mt 6 0,mt 7 1,oz 8 (.call Ct [(.t 6),(.t 7)]),oz 9 (.un .not (.t 8))] (.cond (.t 9) (sf [mt 10 0,mt 4 10,oz 5 (.mv (.k (.b false)))] .ret) .skip)) (sf [mt 11 0,mt 12 1,oz 13 (.lens (.t 12)),oz 14 (.sls (.t 11) (some (.t 13)) none),mt 4 14,oz 5 (.mv (.k (.b true)))] .ret)))⟩
noncomputable def F0:CI:=⟨false,2,23,[.tmp 4, .tmp 5, .tmp 6],(sf [oz 4 (.mv (.k (.s []))),oz 5 (.mv (.k (.s []))),oz 6 (.mv (.k (.b false)))] (.seq (sf [mt 8 0,mt 9 1,oz 10 (.call CM [(.t 8),(.t 9)]),mt 7 10] (sf [mt 11 7,oz 12 (.bin .geq (.t 11) (ki 0))] (.cond (.t 12) (sr [mt 13 0,mt 14 7,oz 15 (.sls (.t 13) none (some (.t 14))),mt 16 0,mt 17 7,mt 18 1,oz 19 (.lens (.t 18)),oz 20 (.bin .add (.t 17) (.t 19)),oz 21 (.sls (.t 16) (some (.t 20)) none),mt 4 15,mt 5 21,oz 6 (.mv (.k (.b true)))] .ret) .skip))) (sf [mt 22 0,mt 4 22,oz 5 (.mv (.k (.s []))),oz 6 (.mv (.k (.b false)))] .ret)))⟩
noncomputable def NZ:AC:=(.blk 1 (sf [mt 20 1,oz 21 (.call GX [(.t 20),(.k (.i .u8 58))]),mt 19 21,oz 22 (.ext (.t 19) 0),oz 23 (.ext (.t 19) 1),oz 24 (.ext (.t 19) 2),mt 5 22,mt 6 23,mt 7 24] (.seq (sf [mt 25 7,oz 26 (.un .not (.t 25))] (.cond (.t 26) (sf [mt 27 0,mt 28 5,oz 29 (.call GU [(.t 27),(.t 28)]),mt 4 29] .ret) .skip)) (sf [mt 31 5,oz 32 (.call Fx [(.t 31)]),mt 30 32,oz 33 (.ext (.t 30) 0),oz 34 (.ext (.t 30) 1),mt 8 33,mt 9 34] (.seq (sf [mt 35 9,oz 36 (.bin .neq (.t 35) (ki 0)),mt 37 36,⟨some 38,some (37,false), .mv (.t 0)⟩,⟨some 39,some (37,false), .mv (.t 8)⟩,⟨some 40,some (37,false), .call DD [(.t 38),(.t 39)]⟩,⟨some 41,some (37,false), .un .not (.t 40)⟩,oz 42 (.pick (.t 37) (.k (.b true)) (.t 41))] (.cond (.t 42) (sf [oz 4 (.mv (.k (.b false)))] .ret) .skip)) (sf [mt 43 6,mt 1 43] (.seq (sf [mt 44 1,oz 45 (.call EH [(.t 44),(.k (.s [58]))]),oz 46 (.un .not (.t 45))] (.cond (.t 46) (.exit 1) .skip)) (.seq (sf [mt 47 0,oz 48 (.nilc (.t 47)),oz 49 (.fa 9 (.t 48)),oz 50 (.ld false 1 (.t 49)),oz 51 (.bin .geq (.t 50) (ki 0))] (.cond (.t 51) (sf [oz 4 (.mv (.k (.b false)))] .ret) .skip)) (sf [mt 52 0,mt 53 0,oz 54 (.nilc (.t 53)),oz 55 (.fa 8 (.t 54)),oz 56 (.ld false 1 (.t 55)),oz 57 (.nilc (.t 52)),oz 58 (.fa 9 (.t 57)),on (.st 1 (.t 58) (.t 56))] (sf [mt 59 1,oz 60 (.sls (.t 59) (some (ki 1)) none),mt 1 60] (sf [mt 61 1,oz 62 (.bin .eql (.t 61) (.k (.s [])))] (.cond (.t 62) (sf [oz 4 (.mv (.k (.b true)))] .ret) .skip))))))))))))
noncomputable def K1:CI:=⟨true,2,63,[.tmp 4],(sf [oz 4 (.mv (.k (.b false)))] (.seq (sf [mt 10 1,oz 11 (.call EH [(.t 10),(.k (.s [58,58]))])] (.cond (.t 11) (sf [mt 12 0,oz 13 (.nilc (.t 12)),oz 14 (.fa 9 (.t 13)),on (.st 1 (.t 14) (ki 0))] (sf [mt 15 1,oz 16 (.sls (.t 15) (some (ki 2)) none),mt 1 16] (sf [mt 17 1,oz 18 (.bin .eql (.t 17) (.k (.s [])))] (.cond (.t 18) (sf [oz 4 (.mv (.k (.b true)))] .ret) .skip)))) .skip)) (.blk 0 (.loop [0,1] NZ))))⟩
noncomputable def Jx:CI:=⟨true,1,63,[.cell true 8 2, .tmp 3],(sf [oz 2 (.alloc 229 (ak 8 dr).zc),oz 3 (.mv (.k (.b false)))] (.seq (sf [mt 5 0,oz 6 (.nilc (.t 5)),oz 7 (.fa 9 (.t 6)),oz 8 (.ld false 1 (.t 7)),oz 9 (.bin .lss (.t 8) (ki 0))] (.cond (.t 9) (.seq (.regd [mt 10 0,oz 11 (.nilc (.t 10)),oz 12 (.fa 0 (.t 11)),oz 13 (.ld true 8 (.t 12)),mt 14 0,oz 15 (.nilc (.t 14)),oz 16 (.fa 8 (.t 15)),oz 17 (.ld false 1 (.t 16)),oz 18 (.bin .eql (.t 17) (ki 8)),on (.st 8 (.t 2) (.t 13)),mt 3 18] [some (0,0),some (0,0),some (0,0),some (0,0),some (0,1),some (0,1),some (0,1),some (0,1),some (0,1),none,some (1,1)]) .ret) .skip)) (.seq (sf [mt 19 0,oz 20 (.nilc (.t 19)),oz 21 (.fa 8 (.t 20)),oz 22 (.ld false 1 (.t 21)),oz 23 (.bin .eql (.t 22) (ki 8))] (.cond (.t 23) (sf [mt 24 0,oz 25 (.nilc (.t 24)),oz 26 (.fa 0 (.t 25)),oz 27 (.ld true 8 (.t 26)),on (.st 8 (.t 2) (.t 27)),oz 3 (.mv (.k (.b false)))] .ret) .skip)) (sf [oz 4 (.alloc 229 (ak 8 dr).zc)] (.seq (.regd [oz 28 (.sla 8 1 (.t 4) none none),mt 29 0,oz 30 (.nilc (.t 29)),oz 31 (.fa 0 (.t 30)),mt 32 0,oz 33 (.nilc (.t 32)),oz 34 (.fa 9 (.t 33)),oz 35 (.ld false 1 (.t 34)),oz 36 (.sla 8 1 (.t 31) none (some (.t 35))),oz 37 (.cpy 1 (.t 28) (.t 36))] [some (0,0),some (0,0),some (0,0),some (0,0),some (0,0),some (0,0),some (0,0),some (0,0),some (0,0),none]) (.seq (.regd [mt 38 0,oz 39 (.nilc (.t 38)),oz 40 (.fa 8 (.t 39)),oz 41 (.ld false 1 (.t 40)),oz 42 (.bin .sub (ki 8) (.t 41)),mt 43 0,oz 44 (.nilc (.t 43)),oz 45 (.fa 9 (.t 44)),oz 46 (.ld false 1 (.t 45)),oz 47 (.bin .add (.t 42) (.t 46)),oz 48 (.sla 8 1 (.t 4) (some (.t 47)) none),mt 49 0,oz 50 (.nilc (.t 49)),oz 51 (.fa 0 (.t 50)),mt 52 0,oz 53 (.nilc (.t 52)),oz 54 (.fa 9 (.t 53)),oz 55 (.ld false 1 (.t 54)),mt 56 0,oz 57 (.nilc (.t 56)),oz 58 (.fa 8 (.t 57)),oz 59 (.ld false 1 (.t 58)),oz 60 (.sla 8 1 (.t 51) (some (.t 55)) (some (.t 59))),oz 61 (.cpy 1 (.t 48) (.t 60))] [some (0,0),some (0,0),some (0,0),some (0,0),some (0,0),some (0,0),some (0,0),some (0,0),some (0,0),some (0,0),some (0,0),some (0,0),some (0,0),some (0,0),some (0,0),some (0,0),some (0,0),some (0,0),some (0,0),some (0,0),some (0,0),some (0,0),some (0,0),none])
 (sf [oz 62 (.ld true 8 (.t 4)),on (.st 8 (.t 2) (.t 62)),oz 3 (.mv (.k (.b true)))] .ret)))))))⟩
noncomputable def Gi:CI:=⟨false,1,15,[.tmp 2],(sf [oz 2 (.mv (.k (.s [])))] (.seq (sf [mt 3 0,oz 4 (.bin .lss (.t 3) (ki 10))] (.cond (.t 4) (sf [mt 5 0,mt 6 0,oz 7 (.bin .add (.t 6) (ki 1)),oz 8 (.sls (.k (.s [48,49,50,51,52,53,54,55,56,57,97,98,99,100,101,102,103,104,105,106,107,108,109,110,111,112,113,114,115,116,117,118,119,120,121,122])) (some (.t 5)) (some (.t 7))),mt 2 8] .ret) .skip)) (sf [mt 9 0,oz 10 (.bin .mul (.t 9) (ki 2)),mt 11 0,oz 12 (.bin .mul (.t 11) (ki 2)),oz 13 (.bin .add (.t 12) (ki 2)),oz 14 (.sls (.k (.s F4)) (some (.t 10)) (some (.t 13))),mt 2 14] .ret)))⟩
noncomputable def EV:CI:=⟨false,1,15,[.tmp 2],(sf [oz 2 (.mv (ki 0))] (sf [mt 4 0,oz 5 (.call GW [(.t 4)]),oz 6 (.call DB [(.t 5)]),mt 3 6] (sf [mt 7 3,mt 8 0,mt 9 3,oz 10 (.iaa 20 1 (.g 2) (.t 9)),oz 11 (.ld false 1 (.t 10)),oz 12 (.bin .geq (.t 8) (.t 11)),oz 13 (.call DC [(.t 12)]),oz 14 (.bin .add (.t 7) (.t 13)),mt 2 14] .ret)))⟩
noncomputable def Jq:AC:=(.seq (sf [mt 19 4,oz 20 (.bin .geq (.t 19) (ki 8))] (.cond (.t 20) .skip (.exit 0))) (.blk 1 (sf [mt 21 1,oz 22 (.bin .rem (.t 21) (.k (.i .u64 100000000))),oz 23 (.cvi .u32 (.t 22)),mt 5 23] (sf [mt 24 1,oz 25 (.bin .quo (.t 24) (.k (.i .u64 100000000))),mt 1 25] (sf [mt 26 5,oz 27 (.bin .quo (.t 26) (.k (.i .u32 10000))),mt 28 5,oz 29 (.bin .rem (.t 28) (.k (.i .u32 10000))),mt 6 27,mt 7 29] (sf [mt 30 7,oz 31 (.bin .quo (.t 30) (.k (.i .u32 100))),oz 32 (.bin .mul (.t 31) (.k (.i .u32 2))),mt 33 7,oz 34 (.bin .rem (.t 33) (.k (.i .u32 100))),oz 35 (.bin .mul (.t 34) (.k (.i .u32 2))),mt 8 32,mt 9 35] (sf [mt 36 6,oz 37 (.bin .quo (.t 36) (.k (.i .u32 100))),oz 38 (.bin .mul (.t 37) (.k (.i .u32 2))),mt 39 6,oz 40 (.bin .rem (.t 39) (.k (.i .u32 100))),oz 41 (.bin .mul (.t 40) (.k (.i .u32 2))),mt 10 38,mt 11 41] (.seq (.regd [mt 42 0,mt 43 4,oz 44 (.bin .sub (.t 43) (ki 1)),mt 45 0,mt 46 4,oz 47 (.bin .sub (.t 46) (ki 2)),mt 48 9,oz 49 (.bin .add (.t 48) (.k (.i .u32 1))),oz 50 (.ixs (.k (.s F4)) (.t 49)),mt 51 9,oz 52 (.ixs (.k (.s F4)) (.t 51)),oz 53 (.ias 1 (.t 42) (.t 44)),on (.st 1 (.t 53) (.t 50)),oz 54 (.ias 1 (.t 45) (.t 47)),on (.st 1 (.t 54) (.t 52))] [some (0,0),some (0,0),some (0,0),some (0,1),some (0,1),some (0,1),some (0,0),some (0,0),some (0,0),some (0,1),some (0,1),some (0,0),none,some (1,1),none]) (.seq (.regd [mt 55 0,mt 56 4,oz 57 (.bin .sub (.t 56) (ki 3)),mt 58 0,mt 59 4,oz 60 (.bin .sub (.t 59) (ki 4)),mt 61 8,oz 62 (.bin .add (.t 61) (.k (.i .u32 1))),oz 63 (.ixs (.k (.s F4)) (.t 62)),mt 64 8,oz 65 (.ixs (.k (.s F4)) (.t 64)),oz 66 (.ias 1 (.t 55) (.t 57)),on (.st 1 (.t 66) (.t 63)),oz 67 (.ias 1 (.t 58) (.t 60)),on (.st 1 (.t 67) (.t 65))] [some (0,0),some (0,0),some (0,0),some (0,1),some (0,1),some (0,1),some (0,0),some (0,0),some (0,0),some (0,1),some (0,1),some (0,0),none,some (1,1),none])
  (.seq (.regd [mt 68 0,mt 69 4,oz 70 (.bin .sub (.t 69) (ki 5)),mt 71 0,mt 72 4,oz 73 (.bin .sub (.t 72) (ki 6)),mt 74 11,oz 75 (.bin .add (.t 74) (.k (.i .u32 1))),oz 76 (.ixs (.k (.s F4)) (.t 75)),mt 77 11,oz 78 (.ixs (.k (.s F4)) (.t 77)),oz 79 (.ias 1 (.t 68) (.t 70)),on (.st 1 (.t 79) (.t 76)),oz 80 (.ias 1 (.t 71) (.t 73)),on (.st 1 (.t 80) (.t 78))] [some (0,0),some (0,0),some (0,0),some (0,1),some (0,1),some (0,1),some (0,0),some (0,0),some (0,0),some (0,1),some (0,1),some (0,0),none,some (1,1),none]) (.seq (.regd [mt 81 0,mt 82 4,oz 83 (.bin .sub (.t 82) (ki 7)),mt 84 0,mt 85 4,oz 86 (.bin .sub (.t 85) (ki 8)),mt 87 10,oz 88 (.bin .add (.t 87) (.k (.i .u32 1))),oz 89 (.ixs (.k (.s F4)) (.t 88)),mt 90 10,oz 91 (.ixs (.k (.s F4)) (.t 90)),oz 92 (.ias 1 (.t 81) (.t 83)),on (.st 1 (.t 92) (.t 89)),oz 93 (.ias 1 (.t 84) (.t 86)),on (.st 1 (.t 93) (.t 91))] [some (0,0),some (0,0),some (0,0),some (0,1),some (0,1),some (0,1),some (0,0),some (0,0),some (0,0),some (0,1),some (0,1),some (0,0),none,some (1,1),none]) (rg false [mt 94 4,oz 95 (.bin .sub (.t 94) (ki 8)),mt 4 95]))))))))))))
noncomputable def Gm:CI:=⟨true,2,167,[],(sf [mt 17 0,oz 18 (.len (.t 17)),mt 4 18] (.seq (.blk 0 (.loop [0,1,4] Jq)) (sf [mt 96 1,oz 97 (.cvi .u32 (.t 96)),mt 12 97] (.seq (sf [mt 98 4,oz 99 (.bin .geq (.t 98) (ki 4))] (.cond (.t 99) (sf [mt 100 12,oz 101 (.bin .rem (.t 100) (.k (.i .u32 10000))),mt 13 101] (sf [mt 102 12,oz 103 (.bin .quo (.t 102) (.k (.i .u32 10000))),mt 12 103] (sf [mt 104 13,oz 105 (.bin .quo (.t 104) (.k (.i .u32 100))),oz 106 (.bin .mul (.t 105) (.k (.i .u32 2))),mt 107 13,oz 108 (.bin .rem (.t 107) (.k (.i .u32 100))),oz 109 (.bin .mul (.t 108) (.k (.i .u32 2))),mt 14 106,mt 15 109] (.seq (.regd [mt 110 0,mt 111 4,oz 112 (.bin .sub (.t 111) (ki 1)),mt 113 0,mt 114 4,oz 115 (.bin .sub (.t 114) (ki 2)),mt 116 15,oz 117 (.bin .add (.t 116) (.k (.i .u32 1))),oz 118 (.ixs (.k (.s F4)) (.t 117)),mt 119 15,oz 120 (.ixs (.k (.s F4)) (.t 119)),oz 121 (.ias 1 (.t 110) (.t 112)),on (.st 1 (.t 121) (.t 118)),oz 122 (.ias 1 (.t 113) (.t 115)),on (.st 1 (.t 122) (.t 120))] [some (0,0),some (0,0),some (0,0),some (0,1),some (0,1),some (0,1),some (0,0),some (0,0),some (0,0),some (0,1),some (0,1),some (0,0),none,some (1,1),none]) (.seq (.regd [mt 123 0,mt 124 4,oz 125 (.bin .sub (.t 124) (ki 3)),mt 126 0,mt 127 4,oz 128 (.bin .sub (.t 127) (ki 4)),mt 129 14,oz 130 (.bin .add (.t 129) (.k (.i .u32 1))),oz 131 (.ixs (.k (.s F4)) (.t 130)),mt 132 14,oz 133 (.ixs (.k (.s F4)) (.t 132)),oz 134 (.ias 1 (.t 123) (.t 125)),on (.st 1 (.t 134) (.t 131)),oz 135 (.ias 1 (.t 126) (.t 128)),on (.st 1 (.t 135) (.t 133))] [some (0,0),some (0,0),some (0,0),some (0,1),some (0,1),some (0,1),some (0,0),some (0,0),some (0,0),some (0,1),some (0,1),some (0,0),none,some (1,1),none])
  (rg false [mt 136 4,oz 137 (.bin .sub (.t 136) (ki 4)),mt 4 137])))))) .skip)) (.seq (sf [mt 138 4,oz 139 (.bin .geq (.t 138) (ki 2))] (.cond (.t 139) (sf [mt 140 12,oz 141 (.bin .rem (.t 140) (.k (.i .u32 100))),oz 142 (.bin .mul (.t 141) (.k (.i .u32 2))),mt 16 142] (sf [mt 143 12,oz 144 (.bin .quo (.t 143) (.k (.i .u32 100))),mt 12 144] (.seq (.regd [mt 145 0,mt 146 4,oz 147 (.bin .sub (.t 146) (ki 1)),mt 148 0,mt 149 4,oz 150 (.bin .sub (.t 149) (ki 2)),mt 151 16,oz 152 (.bin .add (.t 151) (.k (.i .u32 1))),oz 153 (.ixs (.k (.s F4)) (.t 152)),mt 154 16,oz 155 (.ixs (.k (.s F4)) (.t 154)),oz 156 (.ias 1 (.t 145) (.t 147)),on (.st 1 (.t 156) (.t 153)),oz 157 (.ias 1 (.t 148) (.t 150)),on (.st 1 (.t 157) (.t 155))] [some (0,0),some (0,0),some (0,0),some (0,1),some (0,1),some (0,1),some (0,0),some (0,0),some (0,0),some (0,1),some (0,1),some (0,0),none,some (1,1),none]) (rg false [mt 158 4,oz 159 (.bin .sub (.t 158) (ki 2)),mt 4 159])))) .skip)) (sf [mt 160 4,oz 161 (.bin .gtr (.t 160) (ki 0))] (.cond (.t 161) (rg false [mt 162 0,mt 163 12,oz 164 (.bin .add (.k (.i .u32 48)) (.t 163)),oz 165 (.cvi .u8 (.t 164)),oz 166 (.ias 1 (.t 162) (ki 0)),on (.st 1 (.t 166) (.t 165))]) .skip)))))))⟩
noncomputable def TA:AC:=(.seq (sf [mt 14 4,mt 15 0,oz 16 (.lens (.t 15)),oz 17 (.bin .lss (.t 14) (.t 16))] (.cond (.t 17) .skip (.exit 0))) (.seq (.blk 1 (sf [mt 20 0,mt 21 4,oz 22 (.ixs (.t 20) (.t 21)),oz 23 (.call Ig [(.t 22),(.k (.b true))]),mt 5 23] (.seq (sf [mt 24 5,oz 25 (.bin .lss (.t 24) (ki 0))] (.cond (.t 25) (sf [oz 2 (.mv (ki (-1)))] .ret) .skip)) (rg false [mt 26 3,oz 27 (.bin .mul (ki 16) (.t 26)),mt 28 5,oz 29 (.bin .add (.t 27) (.t 28)),mt 3 29])))) (rg false [mt 18 4,oz 19 (.bin .add (.t 18) (ki 1)),mt 4 19])))
noncomputable def LW:CI:=⟨false,1,31,[.tmp 2],(sf [oz 2 (.mv (ki 0))] (.seq (sf [mt 6 0,oz 7 (.lens (.t 6)),oz 8 (.bin .lss (.t 7) (ki 1)),mt 9 8,⟨some 10,some (9,false), .mv (.t 0)⟩,⟨some 11,some (9,false), .lens (.t 10)⟩,⟨some 12,some (9,false), .bin .gtr (.t 11) (ki 4)⟩,oz 13 (.pick (.t 9) (.k (.b true)) (.t 12))] (.cond (.t 13) (sf [oz 2 (.mv (ki (-1)))] .ret) .skip)) (sf [oz 3 (.mv (ki 0))] (.seq (sf [oz 4 (.mv (ki 0))] (.blk 0 (.loop [0,3,4] TA))) (sf [mt 30 3,mt 2 30] .ret)))))⟩
noncomputable def IM:AC:=(sf [oz 5 (.nxt (.t 4)),oz 6 (.ext (.t 5) 0)] (.seq (.cond (.t 6) .skip (.exit 0)) (.blk 1 (rg false [mt 7 2,oz 8 (.bin .add (.t 7) (ki 1)),mt 2 8]))))
noncomputable def Ek:CI:=⟨false,1,10,[.tmp 2],(sf [oz 2 (.mv (ki 0))] (.seq (sf [mt 3 0,oz 4 (.rng (.t 3))] (.blk 0 (.loop [2,4] IM))) (sf [mt 9 2,mt 2 9] .ret)))⟩
noncomputable def DW:CI:=⟨false,1,19,[.tmp 2, .tmp 3],(sf [oz 2 (.mv (.k (.i .i32 0))),oz 3 (.mv (ki 0))] (.seq (sf [mt 4 0,oz 5 (.bin .neq (.t 4) (.k (.s []))),mt 6 5,⟨some 7,some (6,true), .mv (.t 0)⟩,⟨some 8,some (6,true), .ixs (.t 7) (ki 0)⟩,⟨some 9,some (6,true), .bin .lss (.t 8) (.k (.i .u8 128))⟩,oz 10 (.pick (.t 6) (.t 9) (.k (.b false)))] (.cond (.t 10) (sf [mt 11 0,oz 12 (.ixs (.t 11) (ki 0)),oz 13 (.cvi .i32 (.t 12)),mt 2 13,oz 3 (.mv (ki 1))] .ret) (rg false [mt 15 0,oz 16 (.call C1 [(.t 15)]),mt 14 16,oz 17 (.ext (.t 14) 0),oz 18 (.ext (.t 14) 1),mt 2 17,mt 3 18]))) .ret))⟩
noncomputable def UI:AC:=(sf [oz 13 (.bin .lss (.t 12) (.t 11))] (.seq (.cond (.t 13) .skip (.exit 0)) (.seq (.blk 1 (sf [oz 14 (.ias 1 (.t 10) (.t 12)),oz 15 (.ld false 1 (.t 14)),mt 6 15] (rg false [mt 16 4,oz 17 (.bin .shl (.t 16) (.k (.i .u64 8))),mt 18 6,oz 19 (.cvi .u64 (.t 18)),oz 20 (.bin .or (.t 17) (.t 19)),mt 4 20]))) (rg false [oz 21 (.bin .add (.t 12) (ki 1)),mt 12 21]))))
noncomputable def Nb:CI:=⟨false,1,23,[.tmp 2, .tmp 3],(sf [oz 2 (.mv (.k (.i .u64 0))),oz 3 (.mv (ki 0))] (.seq (sf [mt 7 0,oz 8 (.call IU [(.t 7)]),oz 9 (.un .not (.t 8))] (.cond (.t 9) (sf [oz 2 (.mv (.k (.i .u64 0))),oz 3 (.mv (ki 1))] .ret) .skip)) (sf [oz 4 (.mv (.k (.i .u64 0)))] (.seq (sf [mt 10 0,oz 11 (.len (.t 10)),oz 12 (.mv (ki 0))] (.blk 0 (.loop [4,10,11,12] UI))) (sf [mt 22 4,mt 2 22,oz 3 (.mv (ki 0))] .ret)))))⟩
noncomputable def VZ:AC:=(.blk 1 (sf [mt 4 0,oz 5 (.bin .and (.t 4) (.k (.i .u16 15))),oz 6 (.ixs (.k (.s [48,49,50,51,52,53,54,55,56,57,97,98,99,100,101,102])) (.t 5)),oz 7 (.cvc (.t 6)),mt 8 3,oz 9 (.bin .add (.t 7) (.t 8)),mt 3 9] (sf [mt 10 0,oz 11 (.bin .shr (.t 10) (.k (.i .u64 4))),mt 0 11] (sf [mt 12 0,oz 13 (.bin .eql (.t 12) (.k (.i .u16 0)))] (.cond (.t 13) (sf [mt 14 3,mt 2 14] .ret) .skip)))))
noncomputable def Og:CI:=⟨false,1,15,[.tmp 2],(sf [oz 2 (.mv (.k (.s [])))] (sf [oz 3 (.mv (.k (.s [])))] (.blk 0 (.loop [0,3] VZ))))⟩
noncomputable def En:CI:=⟨false,2,18,[.tmp 4],(sf [oz 4 (.mv (.k (.b false)))] (sf [mt 5 0,oz 6 (.lens (.t 5)),mt 7 1,oz 8 (.lens (.t 7)),oz 9 (.bin .geq (.t 6) (.t 8)),mt 10 9,⟨some 11,some (10,true), .mv (.t 0)⟩,⟨some 12,some (10,true), .mv (.t 1)⟩,⟨some 13,some (10,true), .lens (.t 12)⟩,⟨some 14,some (10,true), .sls (.t 11) none (some (.t 13))⟩,⟨some 15,some (10,true), .mv (.t 1)⟩,⟨some 16,some (10,true), .bin .eql (.t 14) (.t 15)⟩,oz 17 (.pick (.t 10) (.t 16) (.k (.b false))),mt 4 17] .ret))⟩
noncomputable def Iw:CI:=⟨false,2,8,[.tmp 4],(sf [oz 4 (.mv (.k (.b false)))] (sf [mt 5 0,mt 6 1,oz 7 (.call Ct [(.t 5),(.t 6)]),mt 4 7] .ret))⟩
noncomputable def K0:CI:=⟨true,2,50,[.tmp 4],(sf [oz 4 (.mv (.k (.b false)))] (.seq (sf [mt 10 1,oz 11 (.call Fx [(.t 10)]),mt 9 11,oz 12 (.ext (.t 9) 0),oz 13 (.ext (.t 9) 1),mt 5 12,mt 6 13] (sf [mt 14 6,oz 15 (.bin .eql (.t 14) (ki 0))] (.cond (.t 15) (sf [mt 16 0,mt 17 5,oz 18 (.call DD [(.t 16),(.t 17)]),mt 4 18] .ret) .skip))) (sf [mt 20 1,oz 21 (.call IL [(.t 20)]),mt 19 21,oz 22 (.ext (.t 19) 0),oz 23 (.ext (.t 19) 1),oz 7 (.alloc 156 (ak 4 a7).zc),on (.st 4 (.t 7) (.t 22)),mt 8 23] (sf [mt 24 8,oz 25 (.bin .eql (.t 24) (ki 0)),mt 26 25,⟨some 27,some (26,true), .mv (.t 0)⟩,⟨some 28,some (26,true), .iaa 4 1 (.t 7) (ki 0)⟩,⟨some 29,some (26,true), .ld false 1 (.t 28)⟩,⟨some 30,some (26,true), .cvi .u16 (.t 29)⟩,⟨some 31,some (26,true), .bin .shl (.t 30) (.k (.i .u64 8))⟩,⟨some 32,some (26,true), .iaa 4 1 (.t 7) (ki 1)⟩,⟨some 33,some (26,true), .ld false 1 (.t 32)⟩,⟨some 34,some (26,true), .cvi .u16 (.t 33)⟩,⟨some 35,some (26,true), .bin .or (.t 31) (.t 34)⟩,⟨some 36,some (26,true), .call DD [(.t 27),(.t 35)]⟩,oz 37 (.pick (.t 26) (.t 36) (.k (.b false))),mt 38 37,⟨some 39,some (38,true), .mv (.t 0)⟩,⟨some 40,some (38,true), .iaa 4 1 (.t 7) (ki 2)⟩,⟨some 41,some (38,true), .ld false 1 (.t 40)⟩,⟨some 42,some (38,true), .cvi .u16 (.t 41)⟩,⟨some 43,some (38,true), .bin .shl (.t 42) (.k (.i .u64 8))⟩,⟨some 44,some (38,true), .iaa 4 1 (.t 7) (ki 3)⟩,⟨some 45,some (38,true), .ld false 1 (.t 44)⟩,⟨some 46,some (38,true), .cvi .u16 (.t 45)⟩,⟨some 47,some (38,true), .bin .or (.t 43) (.t 46)⟩,⟨some 48,some (38,true), .call DD [(.t 39),(.t 47)]⟩,oz 49 (.pick (.t 38) (.t 48) (.k (.b false))),mt 4 49]
 .ret))))⟩
noncomputable def Rz:AC:=(sf [oz 19 (.bin .lss (.t 18) (.t 17))] (.seq (.cond (.t 19) .skip (.exit 0)) (.seq (.blk 1 (sf [mt 20 18,mt 5 20] (sf [mt 22 0,mt 23 5,oz 24 (.ixs (.t 22) (.t 23)),oz 25 (.call JS [(.t 24)]),oz 26 (.call G1 [(.t 25)]),mt 21 26,oz 27 (.ext (.t 21) 0),oz 28 (.ext (.t 21) 1),mt 6 27,mt 7 28] (.seq (sf [mt 29 7,oz 30 (.un .not (.t 29))] (.cond (.t 30) (sf [oz 2 (.mv (.k (.i .u16 0))),oz 3 (.mv (ki 5))] .ret) .skip)) (rg false [mt 31 4,oz 32 (.bin .shl (.t 31) (.k (.i .u64 4))),mt 33 6,oz 34 (.bin .or (.t 32) (.t 33)),mt 4 34]))))) (rg false [oz 35 (.bin .add (.t 18) (ki 1)),mt 18 35]))))
noncomputable def Kn:CI:=⟨false,1,37,[.tmp 2, .tmp 3],(sf [oz 2 (.mv (.k (.i .u16 0))),oz 3 (.mv (ki 0))] (.seq (sf [mt 8 0,oz 9 (.lens (.t 8)),oz 10 (.bin .lss (.t 9) (ki 1)),mt 11 10,⟨some 12,some (11,false), .mv (.t 0)⟩,⟨some 13,some (11,false), .lens (.t 12)⟩,⟨some 14,some (11,false), .bin .gtr (.t 13) (ki 4)⟩,oz 15 (.pick (.t 11) (.k (.b true)) (.t 14))] (.cond (.t 15) (sf [oz 2 (.mv (.k (.i .u16 0))),oz 3 (.mv (ki 5))] .ret) .skip)) (sf [oz 4 (.mv (.k (.i .u16 0)))] (.seq (sf [mt 16 0,oz 17 (.lens (.t 16)),oz 18 (.mv (ki 0))] (.blk 0 (.loop [0,4,17,18] Rz))) (sf [mt 36 4,mt 2 36,oz 3 (.mv (ki 0))] .ret)))))⟩
noncomputable def LC:CI:=⟨true,2,26,[.tmp 4],(sf [oz 4 (.mv (.k (.b false)))] (.seq (sf [mt 5 0,oz 6 (.nilc (.t 5)),oz 7 (.fa 8 (.t 6)),oz 8 (.ld false 1 (.t 7)),oz 9 (.bin .eql (.t 8) (ki 8))] (.cond (.t 9) (sf [oz 4 (.mv (.k (.b false)))] .ret) .skip)) (.seq (.regd [mt 10 0,mt 11 0,oz 12 (.nilc (.t 11)),oz 13 (.fa 8 (.t 12)),oz 14 (.ld false 1 (.t 13)),mt 15 1,oz 16 (.nilc (.t 10)),oz 17 (.fa 0 (.t 16)),oz 18 (.iaa 8 1 (.t 17) (.t 14)),on (.st 1 (.t 18) (.t 15))] [some (0,0),some (0,0),some (0,0),some (0,0),some (0,0),some (0,0),some (0,0),some (0,0),some (0,0),none]) (sf [mt 19 0,oz 20 (.nilc (.t 19)),oz 21 (.fa 8 (.t 20)),oz 22 (.ld false 1 (.t 21)),oz 23 (.bin .add (.t 22) (ki 1)),oz 24 (.nilc (.t 19)),oz 25 (.fa 8 (.t 24)),on (.st 1 (.t 25) (.t 23))] (sf [oz 4 (.mv (.k (.b true)))] .ret)))))⟩
noncomputable def EW:CI:=⟨false,1,6,[.tmp 2],(sf [oz 2 (.mv (ki 0))] (sf [mt 3 0,oz 4 (.bin .mul (.t 3) (ki 78913)),oz 5 (.bin .shr (.t 4) (.k (.i .u64 18))),mt 2 5] .ret))⟩
noncomputable def Kl:CI:=⟨false,1,25,[.tmp 2],(sf [oz 2 (.mv (ki 0))] (.seq (sf [mt 3 0,oz 4 (.bin .geq (.t 3) (.k (.i .u64 4294967296)))] (.cond (.t 4) (sf [mt 5 0,oz 6 (.bin .shr (.t 5) (.k (.i .u64 32))),mt 0 6] (rg false [oz 2 (.mv (ki 32))])) .skip)) (.seq (sf [mt 7 0,oz 8 (.bin .geq (.t 7) (.k (.i .u64 65536)))] (.cond (.t 8) (sf [mt 9 0,oz 10 (.bin .shr (.t 9) (.k (.i .u64 16))),mt 0 10] (rg false [mt 11 2,oz 12 (.bin .add (.t 11) (ki 16)),mt 2 12])) .skip)) (.seq (sf [mt 13 0,oz 14 (.bin .geq (.t 13) (.k (.i .u64 256)))] (.cond (.t 14) (sf [mt 15 0,oz 16 (.bin .shr (.t 15) (.k (.i .u64 8))),mt 0 16] (rg false [mt 17 2,oz 18 (.bin .add (.t 17) (ki 8)),mt 2 18])) .skip)) (sf [mt 19 2,mt 20 0,oz 21 (.cvi .u8 (.t 20)),oz 22 (.ixs (.k (.s str_1)) (.t 21)),oz 23 (.cvi .i64 (.t 22)),oz 24 (.bin .add (.t 19) (.t 23)),mt 2 24] .ret)))))⟩
noncomputable def EX:CI:=⟨false,1,4,[.tmp 2],(sf [oz 2 (.mv (ki 0))] (.seq (sf [mt 3 0] (.cond (.t 3) (sf [oz 2 (.mv (ki 1))] .ret) .skip)) (sf [oz 2 (.mv (ki 0))] .ret)))⟩
noncomputable def D4:CI:=⟨false,1,117,[.tmp 2, .tmp 3],(sf [oz 2 (.mv (.k (.i .i32 0))),oz 3 (.mv (ki 0))] (sf [mt 13 0,oz 14 (.lens (.t 13)),mt 4 14] (.seq (sf [mt 15 4,oz 16 (.bin .lss (.t 15) (ki 1))] (.cond (.t 16) (sf [oz 2 (.mv (.k (.i .i32 65533))),oz 3 (.mv (ki 0))] .ret) .skip)) (sf [mt 17 0,oz 18 (.ixs (.t 17) (ki 0)),mt 5 18] (sf [mt 19 5,oz 20 (.iaa 256 1 (.g 5) (.t 19)),oz 21 (.ld false 1 (.t 20)),mt 6 21] (.seq (sf [mt 22 6,oz 23 (.bin .geq (.t 22) (.k (.i .u8 240)))] (.cond (.t 23) (sf [mt 24 6,oz 25 (.cvi .i32 (.t 24)),oz 26 (.bin .shl (.t 25) (.k (.i .u64 31))),oz 27 (.bin .shr (.t 26) (.k (.i .u64 31))),mt 7 27] (sf [mt 28 0,oz 29 (.ixs (.t 28) (ki 0)),oz 30 (.cvi .i32 (.t 29)),mt 31 7,oz 32 (.bin .andNot (.t 30) (.t 31)),mt 33 7,oz 34 (.bin .and (.k (.i .i32 65533)) (.t 33)),oz 35 (.bin .or (.t 32) (.t 34)),mt 2 35,oz 3 (.mv (ki 1))] .ret)) .skip)) (sf [mt 36 6,oz 37 (.bin .and (.t 36) (.k (.i .u8 7))),oz 38 (.cvi .i64 (.t 37)),mt 8 38] (sf [mt 39 6,oz 40 (.bin .shr (.t 39) (.k (.i .u64 4))),oz 41 (.iaa 16 2 (.g 6) (.t 40)),oz 42 (.ld true 2 (.t 41)),oz 9 (.alloc 278 Ng.zc),on (.st 2 (.t 9) (.t 42))] (.seq (sf [mt 43 4,mt 44 8,oz 45 (.bin .lss (.t 43) (.t 44))] (.cond (.t 45) (sf [oz 2 (.mv (.k (.i .i32 65533))),oz 3 (.mv (ki 1))] .ret) .skip)) (sf [mt 46 0,oz 47 (.ixs (.t 46) (ki 1)),mt 10 47] (.seq (sf [mt 48 10,oz 49 (.fa 0 (.t 9)),oz 50 (.ld false 1 (.t 49)),oz 51 (.bin .lss (.t 48) (.t 50)),mt 52 51,⟨some 53,some (52,false), .fa 1 (.t 9)⟩,⟨some 54,some (52,false), .ld false 1 (.t 53)⟩,⟨some 55,some (52,false), .mv (.t 10)⟩,⟨some 56,some (52,false), .bin .lss (.t 54) (.t 55)⟩,oz 57 (.pick (.t 52) (.k (.b true)) (.t 56))]
 (.cond (.t 57) (sf [oz 2 (.mv (.k (.i .i32 65533))),oz 3 (.mv (ki 1))] .ret) .skip)) (.seq (sf [mt 58 8,oz 59 (.bin .leq (.t 58) (ki 2))] (.cond (.t 59) (sf [mt 60 5,oz 61 (.bin .and (.t 60) (.k (.i .u8 31))),oz 62 (.cvi .i32 (.t 61)),oz 63 (.bin .shl (.t 62) (.k (.i .u64 6))),mt 64 10,oz 65 (.bin .and (.t 64) (.k (.i .u8 63))),oz 66 (.cvi .i32 (.t 65)),oz 67 (.bin .or (.t 63) (.t 66)),mt 2 67,oz 3 (.mv (ki 2))] .ret) .skip)) (sf [mt 68 0,oz 69 (.ixs (.t 68) (ki 2)),mt 11 69] (.seq (sf [mt 70 11,oz 71 (.bin .lss (.t 70) (.k (.i .u8 128))),mt 72 71,⟨some 73,some (72,false), .mv (.t 11)⟩,⟨some 74,some (72,false), .bin .lss (.k (.i .u8 191)) (.t 73)⟩,oz 75 (.pick (.t 72) (.k (.b true)) (.t 74))] (.cond (.t 75) (sf [oz 2 (.mv (.k (.i .i32 65533))),oz 3 (.mv (ki 1))] .ret) .skip)) (.seq (sf [mt 76 8,oz 77 (.bin .leq (.t 76) (ki 3))] (.cond (.t 77) (sf [mt 78 5,oz 79 (.bin .and (.t 78) (.k (.i .u8 15))),oz 80 (.cvi .i32 (.t 79)),oz 81 (.bin .shl (.t 80) (.k (.i .u64 12))),mt 82 10,oz 83 (.bin .and (.t 82) (.k (.i .u8 63))),oz 84 (.cvi .i32 (.t 83)),oz 85 (.bin .shl (.t 84) (.k (.i .u64 6))),oz 86 (.bin .or (.t 81) (.t 85)),mt 87 11,oz 88 (.bin .and (.t 87) (.k (.i .u8 63))),oz 89 (.cvi .i32 (.t 88)),oz 90 (.bin .or (.t 86) (.t 89)),mt 2 90,oz 3 (.mv (ki 3))] .ret) .skip)) (sf [mt 91 0,oz 92 (.ixs (.t 91) (ki 3)),mt 12 92] (.seq (sf [mt 93 12,oz 94 (.bin .lss (.t 93) (.k (.i .u8 128))),mt 95 94,⟨some 96,some (95,false), .mv (.t 12)⟩,⟨some 97,some (95,false), .bin .lss (.k (.i .u8 191)) (.t 96)⟩,oz 98 (.pick (.t 95) (.k (.b true)) (.t 97))]
 (.cond (.t 98) (sf [oz 2 (.mv (.k (.i .i32 65533))),oz 3 (.mv (ki 1))] .ret) .skip)) (sf [mt 99 5,oz 100 (.bin .and (.t 99) (.k (.i .u8 7))),oz 101 (.cvi .i32 (.t 100)),oz 102 (.bin .shl (.t 101) (.k (.i .u64 18))),mt 103 10,oz 104 (.bin .and (.t 103) (.k (.i .u8 63))),oz 105 (.cvi .i32 (.t 104)),oz 106 (.bin .shl (.t 105) (.k (.i .u64 12))),oz 107 (.bin .or (.t 102) (.t 106)),mt 108 11,oz 109 (.bin .and (.t 108) (.k (.i .u8 63))),oz 110 (.cvi .i32 (.t 109)),oz 111 (.bin .shl (.t 110) (.k (.i .u64 6))),oz 112 (.bin .or (.t 107) (.t 111)),mt 113 12,oz 114 (.bin .and (.t 113) (.k (.i .u8 63))),oz 115 (.cvi .i32 (.t 114)),oz 116 (.bin .or (.t 112) (.t 115)),mt 2 116,oz 3 (.mv (ki 4))] .ret))))))))))))))))))⟩
noncomputable def Na:CI:=⟨false,1,11,[.tmp 2],(sf [oz 2 (.mv (.k (.b false)))] (sf [mt 3 0,oz 4 (.len (.t 3)),oz 5 (.bin .geq (.t 4) (ki 1)),mt 6 5,⟨some 7,some (6,true), .mv (.t 0)⟩,⟨some 8,some (6,true), .len (.t 7)⟩,⟨some 9,some (6,true), .bin .leq (.t 8) (ki 8)⟩,oz 10 (.pick (.t 6) (.t 9) (.k (.b false))),mt 2 10] .ret))⟩
noncomputable def Of:CI:=⟨false,1,12,[.tmp 2],(sf [oz 2 (.mv (.k (.i .u8 0)))] (.seq (sf [mt 3 0,oz 4 (.bin .geq (.t 3) (.k (.i .u8 65))),mt 5 4,⟨some 6,some (5,true), .mv (.t 0)⟩,⟨some 7,some (5,true), .bin .leq (.t 6) (.k (.i .u8 70))⟩,oz 8 (.pick (.t 5) (.t 7) (.k (.b false)))] (.cond (.t 8) (sf [mt 9 0,oz 10 (.bin .or (.t 9) (.k (.i .u8 32))),mt 2 10] .ret) .skip)) (sf [mt 11 0,mt 2 11] .ret)))⟩
def sK:(Ar UInt64 20):=⟨[1,10,100,1000,10000,100000,1000000,10000000,100000000,1000000000,10000000000,100000000000,1000000000000,10000000000000,100000000000000,1000000000000000,10000000000000000,100000000000000000,1000000000000000000,10000000000000000000],rfl⟩
def gl_2:List AV:=sK.l.map (fun(x:UInt64)=>AV.i .u64 x.toNat)
theorem gm_2:B0 gl_2=0:=tab_m (fun(x:UInt64)=>AV.i .u64 x.toNat) (fun _=>rfl) _
theorem gr_2: ∀P H,(ak 20 fm).R P H gl_2 sK:=fun _ _=>tab_R sK
def gl_3:List AV:=[.ifc 0 .junk]
theorem gm_3:B0 gl_3=0:=rfl
def gl_4:List AV:=[.ifc 0 .junk]
theorem gm_4:B0 gl_4=0:=rfl
noncomputable def gll:List (Nat×List AV):=[(2,gl_2),(3,gl_3),(4,gl_4)]
noncomputable def fnl:List (Nat×CI):=[(H6,KK),(L7,TE),(GY,Ry),(JM,Rh),(IG,P5),(JJ,NW),(JK,NX),(L3,T3),(L4,T4),(Mp,Ri),(JI,NV),(Lc,P7),(Mu,Rr),(II,P6),(JN,Rj),(Fq,Qf),(FK,MW),(HQ,Oc),(Lb,P4),(IJ,P9),(Mt,Rp),(GC,T1),(L5,T5),(Fl,TB),(N7,TD),(E9,Rq),(N4,T2),(Lf,PD),(JQ,Oa),(JV,Oi),(JO,Rl),(Gf,UD),(N3,ZV),(Mn,WY),(Ps,WX),(FF,IN),(BH,Gl),(Df,HW),(GX,Rx),(Fe,Rt),(L6,T6),(Mo,Rg),(IS,MX),(Mq,Rk),(Jv,TC),(FT,Iv),(JR,Od),(FW,KL),(Bf,MV),(Hi,MY),(Bh,Re),(IR,MU),(Bg,Rd),(CY,P3),(Ij,LY),(Dw,UC),(H7,KM),(Dv,UB),(C2,NU),(N8,TF),(CE,SM),(Ii,LX),(CD,SL),(Eh,NS),(FL,Nc),(EF,SK),(FM,Nd),(JH,Rc),(EE,SJ),(CF,GI),(EG,Iu),(N5,T8),(N6,T9),(IK,PA),(RR,aE),(Pt,VT),(Mr,Rm),(Le,PB),(Cs,Em),(Id,LT),(F2,HU),(Hx,PG),(Gt,Jp),(D2,GJ),(Hj,MZ),(Lh,PF),(JW,R1),(GZ,Km),(Li,PH),(Pw,VY),(F3,HV),(H8,KN),(CV,El),(Ld,P8),(MO,VU),(KH,VV),(Ig,Ru),(Ms,Rn),(JP,Ro),(RQ,ZZ),(Gs,Jo),(CP,DX),(JX,R2),(Fs,LU),(G1,Oe),(Mv,Rw),(Lg,PE),(FU,Ix),(JL,NY),(JU,Oh),(N9,TH),(IL,PC),(D3,EM),(GT,Rv),(Pv,VW),(Ju,T7),(GR,Kk),(Ie,LV),(IW,Nf),(Il,LZ),(Ik,R0),(CW,Eo),(DS,F0),(GV,K1),(Gg,Jx),(Ey,Gi),(DA,EV),(Ei,Gm),(Ih,LW),(Cr,Ek),(CO,DW),(IV,Nb),(JT,Og),(Ct,En),(EH,Iw),(GU,K0),(Fx,Kn),(DD,LC),(DB,EW),(GW,Kl),(DC,EX),(C1,D4),(IU,Na),(JS,Of)]
def prl:List (Nat×(List AV→Az→Option (AV×Option Az))):=[(CH,Ze),(Dp,pCount),(Gh,PW),(FE,(eI 107 5)),(FV,Zd),(CM,Uk)]
def itl:List Nat:=[1]
noncomputable def tb:Di:=⟨fun n=>look n fnl,fun n=>look n gll,fun n=>look n prl,itl⟩
abbrev Dq(n:Nat)(c:CI):Prop:=tb.prim n=none∧tb.fns n=some c
theorem VG:Dq H6 KK:=⟨rfl,rfl⟩
theorem tD:Dq L7 TE:=⟨rfl,rfl⟩
theorem oW:Dq GY Ry:=⟨rfl,rfl⟩
theorem oG:Dq JM Rh:=⟨rfl,rfl⟩
theorem jM:Dq IG P5:=⟨rfl,rfl⟩
theorem cN:Dq JJ NW:=⟨rfl,rfl⟩
theorem cO:Dq JK NX:=⟨rfl,rfl⟩
theorem sS:Dq L3 T3:=⟨rfl,rfl⟩
theorem sT:Dq L4 T4:=⟨rfl,rfl⟩
theorem oH:Dq Mp Ri:=⟨rfl,rfl⟩
theorem cM:Dq JI NV:=⟨rfl,rfl⟩
theorem jO:Dq Lc P7:=⟨rfl,rfl⟩
theorem oQ:Dq Mu Rr:=⟨rfl,rfl⟩
theorem jN:Dq II P6:=⟨rfl,rfl⟩
theorem oI:Dq JN Rj:=⟨rfl,rfl⟩
theorem IX:Dq Fq Qf:=⟨rfl,rfl⟩
theorem Z9:Dq FK MW:=⟨rfl,rfl⟩
theorem cR:Dq HQ Oc:=⟨rfl,rfl⟩
theorem jL:Dq Lb P4:=⟨rfl,rfl⟩
theorem jQ:Dq IJ P9:=⟨rfl,rfl⟩
theorem oO:Dq Mt Rp:=⟨rfl,rfl⟩
theorem sQ:Dq GC T1:=⟨rfl,rfl⟩
theorem sU:Dq L5 T5:=⟨rfl,rfl⟩
theorem sZ:Dq Fl TB:=⟨rfl,rfl⟩
theorem tC:Dq N7 TD:=⟨rfl,rfl⟩
theorem oP:Dq E9 Rq:=⟨rfl,rfl⟩
theorem sR:Dq N4 T2:=⟨rfl,rfl⟩
theorem jU:Dq Lf PD:=⟨rfl,rfl⟩
theorem cQ:Dq JQ Oa:=⟨rfl,rfl⟩
theorem cX:Dq JV Oi:=⟨rfl,rfl⟩
theorem oK:Dq JO Rl:=⟨rfl,rfl⟩
theorem BW:Dq Gf UD:=⟨rfl,rfl⟩
theorem HR:Dq N3 ZV:=⟨rfl,rfl⟩
theorem GD:Dq Mn WY:=⟨rfl,rfl⟩
theorem NA:Dq Ps WX:=⟨rfl,rfl⟩
theorem NL:Dq FF IN:=⟨rfl,rfl⟩
theorem CA:Dq BH Gl:=⟨rfl,rfl⟩
theorem Fy:Dq Df HW:=⟨rfl,rfl⟩
theorem oV:Dq GX Rx:=⟨rfl,rfl⟩
theorem oR:Dq Fe Rt:=⟨rfl,rfl⟩
theorem sV:Dq L6 T6:=⟨rfl,rfl⟩
theorem oF:Dq Mo Rg:=⟨rfl,rfl⟩
theorem ZA:Dq IS MX:=⟨rfl,rfl⟩
theorem oJ:Dq Mq Rk:=⟨rfl,rfl⟩
theorem tA:Dq Jv TC:=⟨rfl,rfl⟩
theorem Sl:Dq FT Iv:=⟨rfl,rfl⟩
theorem cS:Dq JR Od:=⟨rfl,rfl⟩
theorem VH:Dq FW KL:=⟨rfl,rfl⟩
theorem Z8:Dq Bf MV:=⟨rfl,rfl⟩
theorem ZB:Dq Hi MY:=⟨rfl,rfl⟩
theorem HT:Dq Bh Re:=⟨rfl,rfl⟩
theorem Z7:Dq IR MU:=⟨rfl,rfl⟩
theorem HS:Dq Bg Rd:=⟨rfl,rfl⟩
theorem jK:Dq CY P3:=⟨rfl,rfl⟩
theorem X8:Dq Ij LY:=⟨rfl,rfl⟩
theorem U1:Dq Dw UC:=⟨rfl,rfl⟩
theorem VI:Dq H7 KM:=⟨rfl,rfl⟩
theorem U0:Dq Dv UB:=⟨rfl,rfl⟩
theorem cL:Dq C2 NU:=⟨rfl,rfl⟩
theorem tE:Dq N8 TF:=⟨rfl,rfl⟩
theorem SH:Dq CE SM:=⟨rfl,rfl⟩
theorem X7:Dq Ii LX:=⟨rfl,rfl⟩
theorem SG:Dq CD SL:=⟨rfl,rfl⟩
theorem cK:Dq Eh NS:=⟨rfl,rfl⟩
theorem ZF:Dq FL Nc:=⟨rfl,rfl⟩
theorem cJ:Dq EF SK:=⟨rfl,rfl⟩
theorem ZG:Dq FM Nd:=⟨rfl,rfl⟩
theorem oE:Dq JH Rc:=⟨rfl,rfl⟩
theorem cH:Dq EE SJ:=⟨rfl,rfl⟩
theorem BE:Dq CF GI:=⟨rfl,rfl⟩
theorem Sk:Dq EG Iu:=⟨rfl,rfl⟩
theorem sX:Dq N5 T8:=⟨rfl,rfl⟩
theorem sY:Dq N6 T9:=⟨rfl,rfl⟩
theorem jR:Dq IK PA:=⟨rfl,rfl⟩
theorem f_r07_Of:Dq RR aE:=⟨rfl,rfl⟩
theorem zF:Dq Pt VT:=⟨rfl,rfl⟩
theorem oL:Dq Mr Rm:=⟨rfl,rfl⟩
theorem jS:Dq Le PB:=⟨rfl,rfl⟩
theorem Ka:Dq Cs Em:=⟨rfl,rfl⟩
theorem X3:Dq Id LT:=⟨rfl,rfl⟩
theorem QV:Dq F2 HU:=⟨rfl,rfl⟩
theorem jX:Dq Hx PG:=⟨rfl,rfl⟩
theorem Tt:Dq Gt Jp:=⟨rfl,rfl⟩
theorem GE:Dq D2 GJ:=⟨rfl,rfl⟩
theorem ZC:Dq Hj MZ:=⟨rfl,rfl⟩
theorem jW:Dq Lh PF:=⟨rfl,rfl⟩
theorem oY:Dq JW R1:=⟨rfl,rfl⟩
theorem U4:Dq GZ Km:=⟨rfl,rfl⟩
theorem jY:Dq Li PH:=⟨rfl,rfl⟩
theorem zL:Dq Pw VY:=⟨rfl,rfl⟩
theorem QW:Dq F3 HV:=⟨rfl,rfl⟩
theorem VJ:Dq H8 KN:=⟨rfl,rfl⟩
theorem JZ:Dq CV El:=⟨rfl,rfl⟩
theorem jP:Dq Ld P8:=⟨rfl,rfl⟩
theorem zH:Dq MO VU:=⟨rfl,rfl⟩
theorem zI:Dq KH VV:=⟨rfl,rfl⟩
theorem oS:Dq Ig Ru:=⟨rfl,rfl⟩
theorem oM:Dq Ms Rn:=⟨rfl,rfl⟩
theorem oN:Dq JP Ro:=⟨rfl,rfl⟩
theorem f_r10_Of:Dq RQ ZZ:=⟨rfl,rfl⟩
theorem Tr:Dq Gs Jo:=⟨rfl,rfl⟩
theorem J3:Dq CP DX:=⟨rfl,rfl⟩
theorem oZ:Dq JX R2:=⟨rfl,rfl⟩
theorem X4:Dq Fs LU:=⟨rfl,rfl⟩
theorem cT:Dq G1 Oe:=⟨rfl,rfl⟩
theorem oU:Dq Mv Rw:=⟨rfl,rfl⟩
theorem jV:Dq Lg PE:=⟨rfl,rfl⟩
theorem Sn:Dq FU Ix:=⟨rfl,rfl⟩
theorem cP:Dq JL NY:=⟨rfl,rfl⟩
theorem cW:Dq JU Oh:=⟨rfl,rfl⟩
theorem tF:Dq N9 TH:=⟨rfl,rfl⟩
theorem jT:Dq IL PC:=⟨rfl,rfl⟩
theorem LB:Dq D3 EM:=⟨rfl,rfl⟩
theorem oT:Dq GT Rv:=⟨rfl,rfl⟩
theorem zJ:Dq Pv VW:=⟨rfl,rfl⟩
theorem sW:Dq Ju T7:=⟨rfl,rfl⟩
theorem U2:Dq GR Kk:=⟨rfl,rfl⟩
theorem X5:Dq Ie LV:=⟨rfl,rfl⟩
theorem ZH:Dq IW Nf:=⟨rfl,rfl⟩
theorem X9:Dq Il LZ:=⟨rfl,rfl⟩
theorem oX:Dq Ik R0:=⟨rfl,rfl⟩
theorem Kc:Dq CW Eo:=⟨rfl,rfl⟩
theorem MQ:Dq DS F0:=⟨rfl,rfl⟩
theorem Qp:Dq GV K1:=⟨rfl,rfl⟩
theorem OA:Dq Gg Jx:=⟨rfl,rfl⟩
theorem NM:Dq Ey Gi:=⟨rfl,rfl⟩
theorem LN:Dq DA EV:=⟨rfl,rfl⟩
theorem Ks:Dq Ei Gm:=⟨rfl,rfl⟩
theorem X6:Dq Ih LW:=⟨rfl,rfl⟩
theorem JY:Dq Cr Ek:=⟨rfl,rfl⟩
theorem J2:Dq CO DW:=⟨rfl,rfl⟩
theorem ZE:Dq IV Nb:=⟨rfl,rfl⟩
theorem cV:Dq JT Og:=⟨rfl,rfl⟩
theorem Kb:Dq Ct En:=⟨rfl,rfl⟩
theorem Sm:Dq EH Iw:=⟨rfl,rfl⟩
theorem Qo:Dq GU K0:=⟨rfl,rfl⟩
theorem U5:Dq Fx Kn:=⟨rfl,rfl⟩
theorem EI:Dq DD LC:=⟨rfl,rfl⟩
theorem LO:Dq DB EW:=⟨rfl,rfl⟩
theorem U3:Dq GW Kl:=⟨rfl,rfl⟩
theorem LP:Dq DC EX:=⟨rfl,rfl⟩
theorem Im:Dq C1 D4:=⟨rfl,rfl⟩
theorem ZD:Dq IU Na:=⟨rfl,rfl⟩
theorem cU:Dq JS Of:=⟨rfl,rfl⟩
end
section
open Go.Proofs Go.RowKit
set_option maxHeartbeats 2000000 in
set_option maxRecDepth 1000000 in
theorem grow_run:qG c9 106 5:=by
 intro b n w h1 hb hf hn
 obtain⟨cs,hrun,hle,hmax⟩:=Lib.run_makeNoZero (P:=c9) w.drew #[3] 22 5 (by kernel_rfl) n hn
 refine⟨cs,hle,?_⟩
 have hw:ql qm (ql qm 0+(n:Int))=n:=by
  rw[IntKind.wrap_i64,IntKind.wrap_i64]
  omega
 have hcall:(callFunc 143 #[.int .i64 (ql qm (ql qm 0+(n:Int)))]).run c9 w.drew= .ok (.value (.slice (some ⟨w.drew.heap.size,0,none⟩) n cs.size)) (w.drew.drew.drew.alloc (.cells cs 5)):=by
  rw[hw,run_callFunc_extern Tryz.func143 (by kernel_rfl) (by kernel_rfl) (by kernel_rfl) (e:=Extern.BytealgMakeNoZero.makeNoZero #[3] #[22]) (by kernel_rfl),hrun]
  rfl
 have c1:w.drew.cell? ⟨b,1,none⟩=some (.slice none 0 0):=h1
 have c2:(w.alloc (.cells cs 5)).cell? ⟨b,1,none⟩=some (.slice none 0 0):=by
  have:(w.alloc (.cells cs 5)).heap[b]? =w.heap[b]? :=(Lib.alloc_old w _ b hb)
  simp only[f7,this];exact h1
 have f2:(w.alloc (.cells cs 5)).frozen? ⟨b,1,none⟩=false:=by
  have:(w.alloc (.cells cs 5)).heap[b]? =w.heap[b]? :=(Lib.alloc_old w _ b hb)
  simp only[jc,this];exact hf
 have hcopy: ∀W:World,(ml #[22,22] 3 #[.slice (some ⟨w.heap.size,0,none⟩) 0 cs.size, .slice none 0 0]).run c9 W= .ok (goInt 0) W:=
  fun W=>run_copy_none W 22 22 3 5 _ _ 0 cs.size 0 0 (by kernel_rfl) (by kernel_rfl) rfl
 clear hw
 go_enter Tryz.func106,Tryz.ntmps106
 go_wp2
 go_region
 all_goals (go_wp2;go_end0;exact⟨rfl,rfl⟩)
end
section
set_option maxRecDepth 100000
set_option maxHeartbeats 2000000
open Go.Shelf Go.Proofs
def xH:Ren:=⟨fun|14=>141|16=>173|17=>174|19=>216|20=>217|21=>218|22=>219|23=>220|24=>221|25=>244|26=>245|27=>246|28=>253|29=>254|30=>212|31=>213|32=>214|33=>215|34=>239|35=>240|36=>241|37=>242|38=>243|39=>251|40=>252|n=>n,fun|0=>0|2=>2|3=>3|4=>4|5=>5|9=>9|20=>20|21=>21|22=>81|24=>110|25=>180|34=>245|36=>175|37=>22|39=>247|44=>267|47=>152|48=>273|50=>275|52=>240|55=>243|59=>262|60=>51|61=>263|65=>28|66=>280|67=>113|n=>n,fun|0=>3|1=>4|2=>2|3=>7|4=>8|n=>n⟩
theorem Tg:LaysPu.n14 c9 xH where
 mixed:=by kernel_rfl
 f14:=Tryz.func141.trans (qv some (by kernel_rfl))
 f16:=Tryz.func173.trans (qv some (by kernel_rfl))
 f17:=Tryz.func174.trans (qv some (by kernel_rfl))
 f19:=Tryz.func216.trans (qv some (by kernel_rfl))
 f20:=Tryz.func217.trans (qv some (by kernel_rfl))
 f21:=Tryz.func218.trans (qv some (by kernel_rfl))
 f22:=Tryz.func219.trans (qv some (by kernel_rfl))
 f23:=Tryz.func220.trans (qv some (by kernel_rfl))
 f24:=Tryz.func221.trans (qv some (by kernel_rfl))
 f25:=Tryz.func244.trans (qv some (by kernel_rfl))
 f26:=Tryz.func245.trans (qv some (by kernel_rfl))
 f27:=Tryz.func246.trans (qv some (by kernel_rfl))
 f28:=Tryz.func253.trans (qv some (by kernel_rfl))
 f29:=Tryz.func254.trans (qv some (by kernel_rfl))
 f30:=Tryz.func212.trans (qv some (by kernel_rfl))
 f31:=Tryz.func213.trans (qv some (by kernel_rfl))
 f32:=Tryz.func214.trans (qv some (by kernel_rfl))
 f33:=Tryz.func215.trans (qv some (by kernel_rfl))
 f34:=Tryz.func239.trans (qv some (by kernel_rfl))
 f35:=Tryz.func240.trans (qv some (by kernel_rfl))
 f36:=Tryz.func241.trans (qv some (by kernel_rfl))
 f37:=Tryz.func242.trans (qv some (by kernel_rfl))
 f38:=Tryz.func243.trans (qv some (by kernel_rfl))
 f39:=Tryz.func251.trans (qv some (by kernel_rfl))
 f40:=Tryz.func252.trans (qv some (by kernel_rfl))
 t0:=Tryz.underlying0
 a0:=Tryz.isAgg0
 z0:=Tryz.sizeOf0
 v0:=Tryz.zeroValue0
 i0:=by kernel_rfl
 t2:=Tryz.underlying2
 a2:=Tryz.isAgg2
 z2:=Tryz.sizeOf2
 v2:=Tryz.zeroValue2
 i2:=by kernel_rfl
 t3:=my
 a3:=Tryz.isAgg3
 z3:=Tryz.sizeOf3
 v3:=Tryz.zeroValue3
 i3:=by kernel_rfl
 t4:=mz
 a4:=Tryz.isAgg4
 z4:=Tryz.sizeOf4
 v4:=Tryz.zeroValue4
 i4:=by kernel_rfl
 t5:=Tryz.underlying5
 a5:=Tryz.isAgg5
 z5:=Tryz.sizeOf5
 v5:=Tryz.zeroValue5
 i5:=by kernel_rfl
 t9:=Tryz.underlying9
 a9:=Tryz.isAgg9
 z9:=Tryz.sizeOf9
 v9:=Tryz.zeroValue9
 i9:=by kernel_rfl
 t20:=Tryz.underlying20
 a20:=Tryz.isAgg20
 z20:=Tryz.sizeOf20
 v20:=Tryz.zeroValue20
 i20:=by kernel_rfl
 t21:=Tryz.underlying21
 a21:=Tryz.isAgg21
 z21:=Tryz.sizeOf21
 v21:=Tryz.zeroValue21
 i21:=by kernel_rfl
 t22:=Tryz.underlying81
 a22:=Tryz.isAgg81
 z22:=Tryz.sizeOf81
 v22:=Tryz.zeroValue81
 i22:=by kernel_rfl
 t24:=md
 a24:=Tryz.isAgg110
 z24:=Tryz.sizeOf110
 v24:=Tryz.zeroValue110
 i24:=by kernel_rfl
 t25:=Tryz.underlying180
 a25:=Tryz.isAgg180
 z25:=Tryz.sizeOf180
 v25:=Tryz.zeroValue180
 i25:=by kernel_rfl
 t34:=Tryz.underlying245
 a34:=Tryz.isAgg245
 z34:=Tryz.sizeOf245
 v34:=Tryz.zeroValue245
 i34:=by kernel_rfl
 c34:=by kernel_rfl
 t36:=oy
 a36:=Tryz.isAgg175
 z36:=Tryz.sizeOf175
 v36:=Tryz.zeroValue175
 i36:=by kernel_rfl
 t37:=Tryz.underlying22
 a37:=Tryz.isAgg22
 z37:=Tryz.sizeOf22
 v37:=Tryz.zeroValue22
 i37:=by kernel_rfl
 t39:=Tryz.underlying247
 a39:=Tryz.isAgg247
 z39:=Tryz.sizeOf247
 v39:=Tryz.zeroValue247
 i39:=by kernel_rfl
 t44:=Tryz.underlying267
 a44:=Tryz.isAgg267
 z44:=Tryz.sizeOf267
 v44:=Tryz.zeroValue267
 i44:=by kernel_rfl
 t47:=Tryz.underlying152
 a47:=Tryz.isAgg152
 z47:=Tryz.sizeOf152
 v47:=Tryz.zeroValue152
 i47:=by kernel_rfl
 t48:=Tryz.underlying273
 a48:=Tryz.isAgg273
 z48:=Tryz.sizeOf273
 v48:=Tryz.zeroValue273
 i48:=by kernel_rfl
 t50:=Tryz.underlying275
 a50:=Tryz.isAgg275
 z50:=Tryz.sizeOf275
 v50:=Tryz.zeroValue275
 i50:=by kernel_rfl
 t52:=Tryz.underlying240
 a52:=Tryz.isAgg240
 z52:=Tryz.sizeOf240
 v52:=Tryz.zeroValue240
 i52:=by kernel_rfl
 t55:=Tryz.underlying243
 a55:=Tryz.isAgg243
 z55:=Tryz.sizeOf243
 v55:=Tryz.zeroValue243
 i55:=by kernel_rfl
 t59:=o0
 a59:=Tryz.isAgg262
 z59:=Tryz.sizeOf262
 v59:=Tryz.zeroValue262
 i59:=by kernel_rfl
 t60:=Tryz.underlying51
 a60:=Tryz.isAgg51
 z60:=Tryz.sizeOf51
 v60:=Tryz.zeroValue51
 i60:=by kernel_rfl
 t61:=Tryz.underlying263
 a61:=Tryz.isAgg263
 z61:=Tryz.sizeOf263
 t65:=Tryz.underlying28
 a65:=Tryz.isAgg28
 z65:=Tryz.sizeOf28
 v65:=Tryz.zeroValue28
 i65:=by kernel_rfl
 t66:=Tryz.underlying280
 a66:=Tryz.isAgg280
 z66:=Tryz.sizeOf280
 v66:=Tryz.zeroValue280
 i66:=by kernel_rfl
 t67:=Tryz.underlying113
 a67:=Tryz.isAgg113
 z67:=Tryz.sizeOf113
 v67:=Tryz.zeroValue113
 i67:=by kernel_rfl
 g0:=by kernel_rfl
 m0:=by kernel_rfl
 g1:=by kernel_rfl
 m1:=by kernel_rfl
 g2:=by kernel_rfl
 m2:=by kernel_rfl
 g3:=by kernel_rfl
 m3:=by kernel_rfl
 g4:=by kernel_rfl
 m4:=by kernel_rfl
theorem pu_run:fY c9 141 3 4:=by
 intro l w eS eR hl c1 t1 c2 t2
 unfold Gu
 cases h:Lib.parseUintB 64 l with
 |ok u=>
  refine(Any.strconv_ParseUint_10_at64_ok Tg ⟨l.toArray⟩ (by show l.toArray.size≤_;simp only[j2];omega) u (by simpa using h) w).mono ?_
  rintro e w' ⟨rfl,hw⟩
  refine⟨.nilIface,rfl,rfl,?_⟩
  rcases hw with rfl|rfl
  ·exact RowKit.Below.refl _ _
  ·exact Lib.bytesWorld_below _ _ _
 |range=>
  refine(Any.strconv_ParseUint_10_at64_range Tg ⟨l.toArray⟩ (by show l.toArray.size≤_;simp only[j2];omega) (by simpa using h) eR w c2 (.inr t2)).mono ?_
  rintro e w' ⟨k,rfl,_,_,hb⟩
  exact⟨_,rfl,⟨_,_,rfl⟩,hb⟩
 |_=>
  refine(Any.strconv_ParseUint_10_at64_syntax Tg ⟨l.toArray⟩ (by show l.toArray.size≤_;simp only[j2];omega) (by simpa using h) eS w c1 (.inr t1)).mono ?_
  rintro e w' ⟨k,rfl,_,_,hb⟩
  exact⟨_,rfl,⟨_,_,rfl⟩,hb⟩
def xI:Ren:=⟨fun|217=>144|219=>187|224=>228|225=>229|266=>175|267=>230|314=>248|n=>n,fun|3=>3|4=>4|5=>5|9=>9|46=>175|51=>51|146=>269|n=>n,fun|1=>1|n=>n⟩
theorem sE:Lays.n219 c9 xI where
 mixed:=by kernel_rfl
 f217:=Tryz.func144.trans (qv some (by kernel_rfl))
 f219:=Tryz.func187.trans (qv some (by kernel_rfl))
 f224:=Tryz.func228.trans (qv some (by kernel_rfl))
 f225:=Tryz.func229.trans (qv some (by kernel_rfl))
 f266:=Tryz.func175.trans (qv some (by kernel_rfl))
 f267:=Tryz.func230.trans (qv some (by kernel_rfl))
 f314:=Tryz.func248.trans (qv some (by kernel_rfl))
 t3:=my
 a3:=Tryz.isAgg3
 z3:=Tryz.sizeOf3
 v3:=Tryz.zeroValue3
 t4:=mz
 a4:=Tryz.isAgg4
 z4:=Tryz.sizeOf4
 v4:=Tryz.zeroValue4
 t5:=Tryz.underlying5
 a5:=Tryz.isAgg5
 z5:=Tryz.sizeOf5
 v5:=Tryz.zeroValue5
 t9:=Tryz.underlying9
 a9:=Tryz.isAgg9
 z9:=Tryz.sizeOf9
 v9:=Tryz.zeroValue9
 t46:=oy
 a46:=Tryz.isAgg175
 z46:=Tryz.sizeOf175
 v46:=Tryz.zeroValue175
 t51:=Tryz.underlying51
 a51:=Tryz.isAgg51
 z51:=Tryz.sizeOf51
 v51:=Tryz.zeroValue51
 t146:=Tryz.underlying269
 a146:=Tryz.isAgg269
 z146:=Tryz.sizeOf269
 v146:=Tryz.zeroValue269
 g1:=by kernel_rfl
theorem ix_run:fZ c9 187 1:=by
 intro a b w m hl hm
 have h:=Any.stringslite_Index sE ⟨a.toArray⟩ ⟨b.toArray⟩ m w (by show a.toArray.size<_;simpa using hl) hm
 simp at h
 exact h
end
section
set_option maxRecDepth 100000
set_option maxHeartbeats 4000000
open Go.Proofs
theorem k_all:fnl.all (fun x=>yG (okOp c9) c9 x.2 x.1)=true:=by kernel_rfl
theorem Jk:jZ c9 CH=some kw:=by kernel_rfl
theorem KE:jZ c9 Dp=some mf:=by kernel_rfl
theorem O1:jZ c9 Gh=some mu:=by kernel_rfl
theorem NI:pB c9 FE=true:=by kernel_rfl
theorem Sj:pB c9 FV=true:=by kernel_rfl
theorem LL:pB c9 CM=true:=by kernel_rfl
theorem fits:Fits (okOp c9) c9 tb:=by
 refine⟨by kernel_rfl,fun ao o h=>yF ao o h,fun g p h=> ?_,fun g cs h=>(by
  have hm:=QH h
  have all: ∀x∈gll,B0 x.2=0:=by
   simp only[gll,j9]
   exact⟨gm_2,gm_3,gm_4,fun x h=>(by cases h)⟩
  exact all _ hm),fun g fn h=> ?_⟩
 ·have hm:=QH h
  have all: ∀x∈prl,Fh c9 tb fun g args h=>if g=x.1 then x.2 args h else none:=by
   simp only[prl,j9]
   exact⟨Za Jk,rF KE,xW O1,xX NI grow_run,rE Sj rfl rfl pu_run,mM LL (List.Mem.head _) ix_run,fun x h=>(by cases h)⟩
  exact all _ hm
 have hm:=QH h
 exact cd.1 k_all _ hm
end
section
theorem lK{x:Int}(h0: -9223372036854775808≤x)(h1:x<9223372036854775808):ql qm x=x:=by
 simp only[ql,f4,j4];simp;omega
theorem Bc{m:Nat}(h:m<9223372036854775808):ql qm (m:Int)=m:=lK (by omega) (by omega)
section
variable{α:Type}
theorem Np{l:List α}{n:Nat}(h:n≤l.length):Ga l none (some (n:Int))=some (l.take n):=by
 simp[Ga,Qr,h]
theorem FH{l:List α}{n:Nat}(h:n≤l.length):Ga l (some (n:Int)) none=some (l.drop n):=by
 simp[Ga,Qr,h]
theorem subL_mid{l:List α}{m n:Nat}(h:m≤n)(h':n≤l.length):Ga l (some (m:Int)) (some (n:Int))=some ((l.take n).drop m):=by
 simp[Ga,Qr,h,h']
theorem slG_from{l:List α}{n:Nat}(h:n≤l.length):slG (.mk l) (some (n:Int)) none=some (.mk (l.drop n)):=by
 simp[slG,Qr,l6,h,Vz]
theorem slG_to{l:List α}{n:Nat}(h:n≤l.length):slG (.mk l) none (some (n:Int))=some (.mk (l.take n)):=by
 simp[slG,Qr,l6,h,Vz]
theorem B5{l:List α}{n:Nat}:Dj l (n:Int)=l[n]? :=by simp[Dj]
theorem BV{n k:Nat}(h:n<k):BU k (n:Int)=some n:=by simp[BU,h]
theorem PK{bytes:Nat}{g:GS α}{x:α}(h:(g.l.length+1)*bytes≤Bs):M7 bytes g [x]=some (.mk (g.l++[x])):=by
 unfold M7
 rw[qn (by simpa using h)]
 cases g<;>rfl
@[simp] theorem Es {l : List α} : (GS.mk l).l = l := rfl
@[simp] theorem GS.l_nil : (GS.nil : GS α).l = [] := rfl
theorem Us{σ β:Type}{F:σ→Option (σ⊕β)}(m:σ→Nat)(I:σ→Prop)(Q:β→Prop)
  (step: ∀s,I s→(∃s',F s=some (.inl s')∧I s'∧m s'<m s)∨ ∃b,F s=some (.inr b)∧Q b): ∀{s},I s→ ∃b,iter F s=some b∧Q b:=by
 have key: ∀n s,m s<n→I s→ ∃b,iter F s=some b∧Q b:=by
  intro n
  induction n with
  |zero=>intro s h;omega
  |succ n ih=>
   intro s h hI
   rcases step s hI with ⟨s',e,hI',hm⟩|⟨b,e,hq⟩
   ·rw[BN e];exact ih s' (by omega) hI'
   ·exact⟨b,Bm e,hq⟩
 intro s hI
 exact key _ s (Nat.lt_succ_self _) hI
theorem DK{σ β γ:Type}{F:σ→Option (σ⊕β)}{K:β→Option γ}{r:Option γ}{s:σ}(m:σ→Nat)(I:σ→Prop)(Q:β→Prop)(h:I s)
  (step: ∀s,I s→(∃s',F s=some (.inl s')∧I s'∧m s'<m s)∨ ∃b,F s=some (.inr b)∧Q b) (fin: ∀b,Q b→K b=r):(iter F s).bind K=r:=by
 obtain⟨b,e,hb⟩:=Us m I Q step h
 rw[e];exact fin b hb
theorem iter_val{σ β:Type}{F:σ→Option (σ⊕β)}{b:β}(m:σ→Nat)(I:σ→Prop)
  (step: ∀s,I s→(∃s',F s=some (.inl s')∧I s'∧m s'<m s)∨F s=some (.inr b)) {s:σ} (h:I s):iter F s=some b:=by
 obtain⟨b',e,rfl⟩:=Us m I (fun b'=>b'=b) (fun s hs=>(step s hs).imp_right fun e=>⟨b,e,rfl⟩) h
 exact e
end
def AK(c:UInt8):AG→List AG
 |[]=>[[]]
 |x::l=>if x=c then []::AK c l else match AK c l with
  |[]=>[[x]]
  |h::t=>(x::h)::t
theorem C6{c:UInt8}: ∀l,AK c l≠[]
 |[]=>by simp[AK]
 |x::l=>by
  simp only[AK]
  split
  ·simp
  ·split<;>simp
theorem G8{c:UInt8}: ∀{p:AG},(∀x∈p,x≠c)→AK c p=[p]
 |[],_=>rfl
 |x::p,h=>by
  simp only[AK,qo (h x bj),G8 fun y hy=>h y (bg _ hy)]
theorem Gb{c:UInt8}{q:AG}: ∀{p:AG},(∀x∈p,x≠c)→AK c (p++c::q)=p::AK c q
 |[],_=>by simp[AK]
 |x::p,h=>by
  simp only[dt,AK,qo (h x bj),Gb fun y hy=>h y (bg _ hy)]
theorem ET{c:UInt8}: ∀l:AG,(AK c l).length=l.countP (fun x=>x==c)+1
 |[]=>rfl
 |x::l=>by
  have ih:=ET (c:=c) l
  simp only[AK]
  by_cases hx:x=c
  ·rw[qn hx,bb,ih,List.countP_cons_of_pos (by simp[hx])]
  ·rw[qo hx,List.countP_cons_of_neg (by simp[hx])]
   split
   ·rename_i e;exact absurd e (C6 l)
   ·rename_i e;rw[e]at ih;simpa using ih
theorem Vb{c:UInt8}(l:AG):(AK c l).length≤l.length+1:=by
 rw[ET];have:=eu (p:=fun x=>x==c) (l:=l);omega
theorem L9(l:AG)(c:UInt8):((∀x∈l,x≠c)∧O9 l c= -1)∨ ∃p q,l=p++c::q∧(∀x∈p,x≠c)∧O9 l c=(p.length:Int):=by
 unfold O9
 cases e:l.findIdx? (fun x=>x==c)with
 |none=>
  left
  rw[List.findIdx?_eq_none_iff]at e
  exact⟨fun x hx=>by simpa using e x hx,rfl⟩
 |some i=>
  right
  rw[List.findIdx?_eq_some_iff_getElem]at e
  obtain⟨h,h1,h2⟩:=e
  have hc:l[i]=c:=by simpa using h1
  refine⟨l.take i,l.drop (i+1),?_,?_,?_⟩
  ·rw[←hc,←bk h,fq]
  ·intro x hx
   obtain⟨j,hj,rfl⟩:=n0.1 hx
   rw[a6]at hj
   have:=h2 j (by omega)
   rw[List.getElem_take]
   simpa using this
  ·rw[a6];simp only[Int.ofNat_inj];omega
theorem set_at{α:Type}{d:List α}{x y:α}{r:List α}:(d++x::r).set d.length y=d++y::r:=by
 rw[ni _ _ (be _),jq,ir]
theorem drop_at{α:Type}{p q:List α}{x:α}:(p++x::q).drop (p.length+1)=q:=by
 rw[←ck,ez rfl];rfl
theorem take_at{α:Type}{p q:List α}:(p++q).take p.length=p:=il rfl
theorem get_at{α:Type}{d:List α}{x:α}{r:List α}:(d++x::r)[d.length]? =some x:=by
 rw[bo (be _),jq];rfl
end
end Go.Proofs.YtobejhpigbllpaaGreatDoor.Am
