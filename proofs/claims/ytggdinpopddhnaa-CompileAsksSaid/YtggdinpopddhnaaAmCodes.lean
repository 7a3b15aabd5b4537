/-
  The functions: their numbers, their codes. Printed by mkcodes.py.
-/
import Derived.Test.YtggdinpopddhnaaAmQ
set_option maxRecDepth 100000
namespace Go.Proofs.Ytggdinpopddhnaa.Am

def fn_l45_CompileOf : Nat := 3
def fn_l45_CompileAsks : Nat := 4
def fn_r34_Large : Nat := 6
def fn_l45_alive : Nat := 7
def fn_compile_Of : Nat := 8
def fn_r43_Same : Nat := 9
def fn_r45_Of : Nat := 10
def fn_r34_Right : Nat := 11
def fn_iniwrite_Right : Nat := 12
def fn_r43_Large : Nat := 13
def fn_compile_Request : Nat := 14
def fn_r32_Same : Nat := 15
def fn_r45_Request : Nat := 16
def fn_r44_Right : Nat := 17
def fn_change_Right : Nat := 18
def fn_compile_each_api_Peer_api_IniPeer : Nat := 26
def fn_compile_Of_1 : Nat := 27
def fn_slices_Clone_api_Prefix : Nat := 28
def fn_r11_Same : Nat := 29
def fn_r34_from : Nat := 30
def fn_r12_Right : Nat := 31
def fn_r11_Right : Nat := 32
def fn_r11_Less : Nat := 33
def fn_iniwrite_short : Nat := 34
def fn_slices_ContainsFunc_api_IniPeer : Nat := 35
def fn_iniwrite_wrong : Nat := 36
def fn_compile_each_api_IniPeer_api_PeerChange : Nat := 37
def fn_compile_Request_1 : Nat := 38
def fn_hostport_None : Nat := 39
def fn_r32_SamePeer : Nat := 40
def fn_r44_from : Nat := 41
def fn_change_only_api_Key : Nat := 42
def fn_change_only_int : Nat := 43
def fn_change_only_uint32 : Nat := 44
def fn_change_short : Nat := 45
def fn_slices_ContainsFunc_api_PeerChange : Nat := 46
def fn_change_Right_1 : Nat := 47
def fn_change_RightPeer : Nat := 48
def fn_r10_Right : Nat := 58
def fn_r10_Width : Nat := 59
def fn_r10_Mask : Nat := 60
def fn_r10_Less : Nat := 61
def fn_slices_IndexFunc_api_IniPeer : Nat := 62
def fn_keys_Zero : Nat := 63
def fn_hostport_Right : Nat := 64
def fn_slices_ContainsFunc_api_Prefix : Nat := 65
def fn_iniwrite_wrong_1 : Nat := 66
def fn_cidr_Right : Nat := 67
def fn_slices_IndexFunc_api_PeerChange : Nat := 68
def fn_change_only_api_Endpoint : Nat := 69
def fn_change_RightPeer_1 : Nat := 70
def fn_r10_digit : Nat := 76
def fn_addr_Right : Nat := 77
def fn_slices_IndexFunc_api_Prefix : Nat := 78
def fn_cidr_Of : Nat := 79
def fn_addr_Four : Nat := 82
def fn_addr_Width : Nat := 83
def fn_addr_Mask : Nat := 84
noncomputable def z_api_Addr : List AV := zz [(1, .i .i64 0), (16, .i .u8 0)]
noncomputable def z_api_Endpoint : List AV := zz [(1, .i .i64 0), (16, .i .u8 0), (1, .i .i64 0)]
noncomputable def z_api_Ini : List AV := zz [(32, .i .u8 0), (1, .i .i64 0), (1, .i .u32 0), (1, .nils)]
noncomputable def z_api_IniPeer : List AV := zz [(64, .i .u8 0), (1, .i .i64 0), (16, .i .u8 0), (2, .i .i64 0), (1, .nils)]
noncomputable def z_api_Key : List AV := zz [(32, .i .u8 0)]
noncomputable def z_api_Peer : List AV := zz [(64, .i .u8 0), (1, .i .i64 0), (16, .i .u8 0), (2, .i .i64 0), (2, .i .u64 0), (1, .nils)]
noncomputable def z_api_PeerChange : List AV := zz [(32, .i .u8 0), (3, .b false), (32, .i .u8 0), (1, .b false), (1, .i .i64 0), (16, .i .u8 0), (1, .i .i64 0), (1, .b false), (1, .i .i64 0), (1, .b false), (1, .nils)]
noncomputable def z_api_Prefix : List AV := zz [(1, .i .i64 0), (16, .i .u8 0), (1, .i .i64 0)]
noncomputable def z_api_Request : List AV := zz [(1, .b false), (32, .i .u8 0), (1, .b false), (1, .i .i64 0), (1, .b false), (1, .i .u32 0), (1, .b false), (1, .nils)]
@[go_sem] theorem zc_api_Addr : z_api_Addr = TAddr.c TAddr.z := rfl
@[go_sem] theorem zc_api_Endpoint : z_api_Endpoint = TEndpoint.c TEndpoint.z := rfl
@[go_sem] theorem zc_api_Ini : z_api_Ini = TIni.c TIni.z := rfl
@[go_sem] theorem zc_api_IniPeer : z_api_IniPeer = TIniPeer.c TIniPeer.z := rfl
@[go_sem] theorem zc_api_Key : z_api_Key = Bs.c (Bs.z 32) := rfl
@[go_sem] theorem zc_api_Peer : z_api_Peer = TPeer.c TPeer.z := rfl
@[go_sem] theorem zc_api_PeerChange : z_api_PeerChange = TPeerChange.c TPeerChange.z := rfl
@[go_sem] theorem zc_api_Prefix : z_api_Prefix = TPrefix.c TPrefix.z := rfl
@[go_sem] theorem zc_api_Request : z_api_Request = TRequest.c TRequest.z := rfl
noncomputable def c_l45_CompileOf : AFn := ⟨1, 25, [.tmp 2],
  (.seq (.reg [⟨some 1, none, .box 35 (.t 0)⟩, ⟨some 2, none, .mv (.k (.b false))⟩])
  (.seq (.seq (.reg [⟨some 4, none, .ld true 35 (.t 1)⟩, ⟨some 5, none, .call fn_r34_Large [(.t 4)]⟩])
  (.cond (.t 5)
   (.seq (.reg [⟨some 6, none, .call fn_l45_alive []⟩, ⟨some 2, none, .mv (.t 6)⟩])
   .ret)
   .skip))
  (.seq (.reg [⟨some 7, none, .ld true 35 (.t 1)⟩, ⟨some 8, none, .call fn_compile_Of [(.t 7)]⟩, ⟨some 3, none, .alloc z_api_Ini⟩, ⟨none, none, .st 35 (.t 3) (.t 8)⟩])
  (.seq (.regq [⟨some 9, none, .ld true 35 (.t 3)⟩, ⟨some 10, none, .ld true 35 (.t 1)⟩, ⟨some 11, none, .call fn_r45_Of [(.t 10)]⟩, ⟨some 12, none, .call fn_r43_Same [(.t 9), (.t 11)]⟩, ⟨some 13, none, .mv (.t 12)⟩, ⟨some 14, some (13, true), .ld true 35 (.t 1)⟩, ⟨some 15, some (13, true), .call fn_r34_Right [(.t 14)]⟩, ⟨some 16, some (13, true), .un .not (.t 15)⟩, ⟨some 17, some (13, true), .mv (.t 16)⟩, ⟨some 18, some (17, false), .ld true 35 (.t 3)⟩, ⟨some 19, some (17, false), .call fn_iniwrite_Right [(.t 18)]⟩, ⟨some 20, some (13, true), .pick (.t 17) (.k (.b true)) (.t 19)⟩, ⟨some 21, none, .pick (.t 13) (.t 20) (.k (.b false))⟩, ⟨some 22, none, .mv (.t 21)⟩, ⟨some 23, some (22, true), .call fn_l45_alive []⟩, ⟨some 24, none, .pick (.t 22) (.t 23) (.k (.b false))⟩, ⟨some 2, none, .mv (.t 24)⟩])
  .ret))))⟩
noncomputable def c_l45_CompileAsks : AFn := ⟨1, 25, [.tmp 2],
  (.seq (.reg [⟨some 1, none, .box 35 (.t 0)⟩, ⟨some 2, none, .mv (.k (.b false))⟩])
  (.seq (.seq (.reg [⟨some 4, none, .ld true 35 (.t 1)⟩, ⟨some 5, none, .call fn_r43_Large [(.t 4)]⟩])
  (.cond (.t 5)
   (.seq (.reg [⟨some 6, none, .call fn_l45_alive []⟩, ⟨some 2, none, .mv (.t 6)⟩])
   .ret)
   .skip))
  (.seq (.reg [⟨some 7, none, .ld true 35 (.t 1)⟩, ⟨some 8, none, .call fn_compile_Request [(.t 7)]⟩, ⟨some 3, none, .alloc z_api_Request⟩, ⟨none, none, .st 39 (.t 3) (.t 8)⟩])
  (.seq (.regq [⟨some 9, none, .ld true 39 (.t 3)⟩, ⟨some 10, none, .ld true 35 (.t 1)⟩, ⟨some 11, none, .call fn_r45_Request [(.t 10)]⟩, ⟨some 12, none, .call fn_r32_Same [(.t 9), (.t 11)]⟩, ⟨some 13, none, .mv (.t 12)⟩, ⟨some 14, some (13, true), .ld true 35 (.t 1)⟩, ⟨some 15, some (13, true), .call fn_r44_Right [(.t 14)]⟩, ⟨some 16, some (13, true), .un .not (.t 15)⟩, ⟨some 17, some (13, true), .mv (.t 16)⟩, ⟨some 18, some (17, false), .ld true 39 (.t 3)⟩, ⟨some 19, some (17, false), .call fn_change_Right [(.t 18)]⟩, ⟨some 20, some (13, true), .pick (.t 17) (.k (.b true)) (.t 19)⟩, ⟨some 21, none, .pick (.t 13) (.t 20) (.k (.b false))⟩, ⟨some 22, none, .mv (.t 21)⟩, ⟨some 23, some (22, true), .call fn_l45_alive []⟩, ⟨some 24, none, .pick (.t 22) (.t 23) (.k (.b false))⟩, ⟨some 2, none, .mv (.t 24)⟩])
  .ret))))⟩
noncomputable def c_r34_Large_l0 : AC :=
  (.seq (.seq (.reg [⟨some 8, none, .mv (.t 3)⟩, ⟨some 9, none, .fa 34 (.t 1)⟩, ⟨some 10, none, .ld false 1 (.t 9)⟩, ⟨some 11, none, .len (.t 10)⟩, ⟨some 12, none, .bin .lss (.t 8) (.t 11)⟩])
  (.cond (.t 12)
   .skip
   (.exit 0)))
  (.seq (.blk 1
   (.seq (.reg [⟨some 15, none, .fa 34 (.t 1)⟩, ⟨some 16, none, .ld false 1 (.t 15)⟩, ⟨some 17, none, .mv (.t 3)⟩, ⟨some 18, none, .ias 86 (.t 16) (.t 17)⟩, ⟨some 19, none, .fa 85 (.t 18)⟩, ⟨some 20, none, .ld false 1 (.t 19)⟩, ⟨some 21, none, .len (.t 20)⟩, ⟨some 22, none, .bin .gtr (.t 21) (.k (.i .i64 80))⟩])
   (.cond (.t 22)
    (.seq (.reg [⟨some 2, none, .mv (.k (.b true))⟩])
    .ret)
    .skip)))
  (.reg [⟨some 13, none, .mv (.t 3)⟩, ⟨some 14, none, .bin .add (.t 13) (.k (.i .i64 1))⟩, ⟨some 3, none, .mv (.t 14)⟩])))
noncomputable def c_r34_Large : AFn := ⟨1, 23, [.tmp 2],
  (.seq (.reg [⟨some 1, none, .box 35 (.t 0)⟩, ⟨some 2, none, .mv (.k (.b false))⟩])
  (.seq (.seq (.reg [⟨some 4, none, .fa 34 (.t 1)⟩, ⟨some 5, none, .ld false 1 (.t 4)⟩, ⟨some 6, none, .len (.t 5)⟩, ⟨some 7, none, .bin .gtr (.t 6) (.k (.i .i64 20))⟩])
  (.cond (.t 7)
   (.seq (.reg [⟨some 2, none, .mv (.k (.b true))⟩])
   .ret)
   .skip))
  (.seq (.seq (.reg [⟨some 3, none, .mv (.k (.i .i64 0))⟩])
  (.blk 0
   (.loop [1, 3] c_r34_Large_l0)))
  (.seq (.reg [⟨some 2, none, .mv (.k (.b false))⟩])
  .ret))))⟩
noncomputable def c_l45_alive : AFn := ⟨0, 16, [.tmp 0],
  (.seq (.reg [⟨some 0, none, .mv (.k (.b false))⟩])
  (.seq (.reg [⟨some 2, none, .bld z_api_Ini []⟩, ⟨some 3, none, .call fn_compile_Request [(.t 2)]⟩, ⟨some 1, none, .alloc z_api_Request⟩, ⟨none, none, .st 39 (.t 1) (.t 3)⟩])
  (.seq (.reg [⟨some 4, none, .fa 37 (.t 1)⟩, ⟨some 5, none, .ld false 1 (.t 4)⟩, ⟨some 6, none, .mv (.t 5)⟩, ⟨some 7, some (6, true), .fa 33 (.t 1)⟩, ⟨some 8, some (6, true), .ld false 1 (.t 7)⟩, ⟨some 9, none, .pick (.t 6) (.t 8) (.k (.b false))⟩, ⟨some 10, none, .mv (.t 9)⟩, ⟨some 11, some (10, true), .fa 38 (.t 1)⟩, ⟨some 12, some (10, true), .ld false 1 (.t 11)⟩, ⟨some 13, some (10, true), .len (.t 12)⟩, ⟨some 14, some (10, true), .bin .eql (.t 13) (.k (.i .i64 0))⟩, ⟨some 15, none, .pick (.t 10) (.t 14) (.k (.b false))⟩, ⟨some 0, none, .mv (.t 15)⟩])
  .ret)))⟩
noncomputable def c_compile_Of : AFn := ⟨1, 13, [.cell true 35 2],
  (.seq (.reg [⟨some 1, none, .box 35 (.t 0)⟩, ⟨some 2, none, .alloc z_api_Ini⟩])
  (.seq (.regd [⟨some 3, none, .fa 0 (.t 1)⟩, ⟨some 4, none, .ld true 32 (.t 3)⟩, ⟨some 5, none, .fa 32 (.t 1)⟩, ⟨some 6, none, .ld false 1 (.t 5)⟩, ⟨some 7, none, .fa 33 (.t 1)⟩, ⟨some 8, none, .ld false 1 (.t 7)⟩, ⟨some 9, none, .fa 34 (.t 1)⟩, ⟨some 10, none, .ld false 1 (.t 9)⟩, ⟨some 11, none, .call fn_compile_each_api_Peer_api_IniPeer [(.t 10), (.f fn_compile_Of_1)]⟩, ⟨some 12, none, .bld z_api_Ini [(0, 32, (.t 4)), (32, 1, (.t 6)), (33, 1, (.t 8)), (34, 1, (.t 11))]⟩, ⟨none, none, .st 35 (.t 2) (.t 12)⟩] [some (0, 1), some (0, 1), some (0, 1), some (0, 1), some (0, 1), some (0, 1), some (0, 0), some (0, 0), none, some (1, 1), none])
  .ret))⟩
noncomputable def c_r43_Same_l0 : AC :=
  (.seq (.seq (.reg [⟨some 36, none, .mv (.t 5)⟩, ⟨some 37, none, .fa 34 (.t 2)⟩, ⟨some 38, none, .ld false 1 (.t 37)⟩, ⟨some 39, none, .len (.t 38)⟩, ⟨some 40, none, .bin .lss (.t 36) (.t 39)⟩])
  (.cond (.t 40)
   .skip
   (.exit 0)))
  (.seq (.blk 1
   (.seq (.reg [⟨some 43, none, .fa 34 (.t 2)⟩, ⟨some 44, none, .ld false 1 (.t 43)⟩, ⟨some 45, none, .mv (.t 5)⟩, ⟨some 46, none, .ias 84 (.t 44) (.t 45)⟩, ⟨some 47, none, .ld true 84 (.t 46)⟩, ⟨some 6, none, .alloc z_api_IniPeer⟩, ⟨none, none, .st 84 (.t 6) (.t 47)⟩])
   (.seq (.reg [⟨some 48, none, .fa 34 (.t 3)⟩, ⟨some 49, none, .ld false 1 (.t 48)⟩, ⟨some 50, none, .mv (.t 5)⟩, ⟨some 51, none, .ias 84 (.t 49) (.t 50)⟩, ⟨some 52, none, .ld true 84 (.t 51)⟩, ⟨some 7, none, .alloc z_api_IniPeer⟩, ⟨none, none, .st 84 (.t 7) (.t 52)⟩])
   (.seq (.reg [⟨some 53, none, .fa 0 (.t 6)⟩, ⟨some 54, none, .ld true 32 (.t 53)⟩, ⟨some 55, none, .fa 0 (.t 7)⟩, ⟨some 56, none, .ld true 32 (.t 55)⟩, ⟨some 57, none, .eq true (.agg (kk [(32, .i .u8)])) (.t 54) (.t 56)⟩, ⟨some 58, none, .mv (.t 57)⟩, ⟨some 59, some (58, false), .fa 32 (.t 6)⟩, ⟨some 60, some (58, false), .ld true 32 (.t 59)⟩, ⟨some 61, some (58, false), .fa 32 (.t 7)⟩, ⟨some 62, some (58, false), .ld true 32 (.t 61)⟩, ⟨some 63, some (58, false), .eq true (.agg (kk [(32, .i .u8)])) (.t 60) (.t 62)⟩, ⟨some 64, none, .pick (.t 58) (.k (.b true)) (.t 63)⟩, ⟨some 65, none, .mv (.t 64)⟩, ⟨some 66, some (65, false), .fa 64 (.t 6)⟩, ⟨some 67, some (65, false), .ld true 18 (.t 66)⟩, ⟨some 68, some (65, false), .fa 64 (.t 7)⟩, ⟨some 69, some (65, false), .ld true 18 (.t 68)⟩, ⟨some 70, some (65, false), .eq true (.agg (kk [(1, .i .i64), (16, .i .u8), (1, .i .i64)])) (.t 67) (.t 69)⟩, ⟨some 71, none, .pick (.t 65) (.k (.b true)) (.t 70)⟩, ⟨some 72, none, .mv (.t 71)⟩, ⟨some 73, some (72, false), .fa 82 (.t 6)⟩, ⟨some 74, some (72, false), .ld false 1 (.t 73)⟩, ⟨some 75, some (72, false), .fa 82 (.t 7)⟩, ⟨some 76, some (72, false), .ld false 1 (.t 75)⟩, ⟨some 77, some (72, false), .bin .neq (.t 74) (.t 76)⟩, ⟨some 78, none, .pick (.t 72) (.k (.b true)) (.t 77)⟩, ⟨some 79, none, .mv (.t 78)⟩, ⟨some 80, some (79, false), .fa 83 (.t 6)⟩, ⟨some 81, some (79, false), .ld false 1 (.t 80)⟩, ⟨some 82, some (79, false), .fa 83 (.t 7)⟩, ⟨some 83, some (79, false), .ld false 1 (.t 82)⟩, ⟨some 84, some (79, false), .call fn_r11_Same [(.t 81), (.t 83)]⟩, ⟨some 85, some (79, false), .un .not (.t 84)⟩, ⟨some 86, none, .pick (.t 79) (.k (.b true)) (.t 85)⟩])
   (.cond (.t 86)
    (.seq (.reg [⟨some 4, none, .mv (.k (.b false))⟩])
    .ret)
    .skip)))))
  (.reg [⟨some 41, none, .mv (.t 5)⟩, ⟨some 42, none, .bin .add (.t 41) (.k (.i .i64 1))⟩, ⟨some 5, none, .mv (.t 42)⟩])))
noncomputable def c_r43_Same : AFn := ⟨2, 87, [.tmp 4],
  (.seq (.reg [⟨some 2, none, .box 35 (.t 0)⟩, ⟨some 3, none, .box 35 (.t 1)⟩, ⟨some 4, none, .mv (.k (.b false))⟩])
  (.seq (.seq (.reg [⟨some 8, none, .fa 0 (.t 2)⟩, ⟨some 9, none, .ld true 32 (.t 8)⟩, ⟨some 10, none, .fa 0 (.t 3)⟩, ⟨some 11, none, .ld true 32 (.t 10)⟩, ⟨some 12, none, .eq true (.agg (kk [(32, .i .u8)])) (.t 9) (.t 11)⟩, ⟨some 13, none, .mv (.t 12)⟩, ⟨some 14, some (13, false), .fa 32 (.t 2)⟩, ⟨some 15, some (13, false), .ld false 1 (.t 14)⟩, ⟨some 16, some (13, false), .fa 32 (.t 3)⟩, ⟨some 17, some (13, false), .ld false 1 (.t 16)⟩, ⟨some 18, some (13, false), .bin .neq (.t 15) (.t 17)⟩, ⟨some 19, none, .pick (.t 13) (.k (.b true)) (.t 18)⟩, ⟨some 20, none, .mv (.t 19)⟩, ⟨some 21, some (20, false), .fa 33 (.t 2)⟩, ⟨some 22, some (20, false), .ld false 1 (.t 21)⟩, ⟨some 23, some (20, false), .fa 33 (.t 3)⟩, ⟨some 24, some (20, false), .ld false 1 (.t 23)⟩, ⟨some 25, some (20, false), .bin .neq (.t 22) (.t 24)⟩, ⟨some 26, none, .pick (.t 20) (.k (.b true)) (.t 25)⟩, ⟨some 27, none, .mv (.t 26)⟩, ⟨some 28, some (27, false), .fa 34 (.t 2)⟩, ⟨some 29, some (27, false), .ld false 1 (.t 28)⟩, ⟨some 30, some (27, false), .len (.t 29)⟩, ⟨some 31, some (27, false), .fa 34 (.t 3)⟩, ⟨some 32, some (27, false), .ld false 1 (.t 31)⟩, ⟨some 33, some (27, false), .len (.t 32)⟩, ⟨some 34, some (27, false), .bin .neq (.t 30) (.t 33)⟩, ⟨some 35, none, .pick (.t 27) (.k (.b true)) (.t 34)⟩])
  (.cond (.t 35)
   (.seq (.reg [⟨some 4, none, .mv (.k (.b false))⟩])
   .ret)
   .skip))
  (.seq (.seq (.reg [⟨some 5, none, .mv (.k (.i .i64 0))⟩])
  (.blk 0
   (.loop [2, 3, 5] c_r43_Same_l0)))
  (.seq (.reg [⟨some 4, none, .mv (.k (.b true))⟩])
  .ret))))⟩
noncomputable def c_r45_Of_l0 : AC :=
  (.seq (.seq (.reg [⟨some 13, none, .mv (.t 4)⟩, ⟨some 14, none, .fa 34 (.t 1)⟩, ⟨some 15, none, .ld false 1 (.t 14)⟩, ⟨some 16, none, .len (.t 15)⟩, ⟨some 17, none, .bin .lss (.t 13) (.t 16)⟩])
  (.cond (.t 17)
   .skip
   (.exit 0)))
  (.seq (.blk 1
   (.seq (.reg [⟨some 20, none, .fa 34 (.t 1)⟩, ⟨some 21, none, .ld false 1 (.t 20)⟩, ⟨some 22, none, .mv (.t 4)⟩, ⟨some 23, none, .ias 86 (.t 21) (.t 22)⟩, ⟨some 24, none, .ld true 86 (.t 23)⟩, ⟨some 5, none, .alloc z_api_Peer⟩, ⟨none, none, .st 86 (.t 5) (.t 24)⟩])
   (.reg [⟨some 25, none, .fa 34 (.t 3)⟩, ⟨some 26, none, .ld false 1 (.t 25)⟩, ⟨some 27, none, .fa 0 (.t 5)⟩, ⟨some 28, none, .ld true 32 (.t 27)⟩, ⟨some 29, none, .fa 32 (.t 5)⟩, ⟨some 30, none, .ld true 32 (.t 29)⟩, ⟨some 31, none, .fa 64 (.t 5)⟩, ⟨some 32, none, .ld true 18 (.t 31)⟩, ⟨some 33, none, .fa 82 (.t 5)⟩, ⟨some 34, none, .ld false 1 (.t 33)⟩, ⟨some 35, none, .fa 85 (.t 5)⟩, ⟨some 36, none, .ld false 1 (.t 35)⟩, ⟨some 37, none, .bld z_api_IniPeer [(0, 32, (.t 28)), (32, 32, (.t 30)), (64, 18, (.t 32)), (82, 1, (.t 34)), (83, 1, (.t 36))]⟩, ⟨some 38, none, .bll 84 (List.replicate 1 z_api_IniPeer) [(0, (.t 37))]⟩, ⟨some 39, none, .app 84 128 (.t 26) (.t 38)⟩, ⟨some 40, none, .fa 34 (.t 3)⟩, ⟨none, none, .st 1 (.t 40) (.t 39)⟩])))
  (.reg [⟨some 18, none, .mv (.t 4)⟩, ⟨some 19, none, .bin .add (.t 18) (.k (.i .i64 1))⟩, ⟨some 4, none, .mv (.t 19)⟩])))
noncomputable def c_r45_Of : AFn := ⟨1, 42, [.cell true 35 2],
  (.seq (.reg [⟨some 1, none, .box 35 (.t 0)⟩, ⟨some 2, none, .alloc z_api_Ini⟩])
  (.seq (.reg [⟨some 6, none, .fa 0 (.t 1)⟩, ⟨some 7, none, .ld true 32 (.t 6)⟩, ⟨some 8, none, .fa 32 (.t 1)⟩, ⟨some 9, none, .ld false 1 (.t 8)⟩, ⟨some 10, none, .fa 33 (.t 1)⟩, ⟨some 11, none, .ld false 1 (.t 10)⟩, ⟨some 12, none, .bld z_api_Ini [(0, 32, (.t 7)), (32, 1, (.t 9)), (33, 1, (.t 11))]⟩, ⟨some 3, none, .alloc z_api_Ini⟩, ⟨none, none, .st 35 (.t 3) (.t 12)⟩])
  (.seq (.seq (.reg [⟨some 4, none, .mv (.k (.i .i64 0))⟩])
  (.blk 0
   (.loop [1, 2, 3, 4] c_r45_Of_l0)))
  (.seq (.reg [⟨some 41, none, .ld true 35 (.t 3)⟩, ⟨none, none, .st 35 (.t 2) (.t 41)⟩])
  .ret))))⟩
noncomputable def c_r34_Right_l0 : AC :=
  (.seq (.seq (.reg [⟨some 54, none, .mv (.t 6)⟩, ⟨some 55, none, .mv (.t 4)⟩, ⟨some 56, none, .bin .lss (.t 54) (.t 55)⟩])
  (.cond (.t 56)
   .skip
   (.exit 2)))
  (.seq (.blk 3
   (.seq (.regq [⟨some 59, none, .fa 34 (.t 1)⟩, ⟨some 60, none, .ld false 1 (.t 59)⟩, ⟨some 61, none, .mv (.t 6)⟩, ⟨some 62, none, .ias 86 (.t 60) (.t 61)⟩, ⟨some 63, none, .fa 0 (.t 62)⟩, ⟨some 64, none, .ld true 32 (.t 63)⟩, ⟨some 65, none, .fa 0 (.t 5)⟩, ⟨some 66, none, .ld true 32 (.t 65)⟩, ⟨some 67, none, .eq false (.agg (kk [(32, .i .u8)])) (.t 64) (.t 66)⟩])
   (.cond (.t 67)
    (.seq (.reg [⟨some 2, none, .mv (.k (.b false))⟩])
    .ret)
    .skip)))
  (.reg [⟨some 57, none, .mv (.t 6)⟩, ⟨some 58, none, .bin .add (.t 57) (.k (.i .i64 1))⟩, ⟨some 6, none, .mv (.t 58)⟩])))
noncomputable def c_r34_Right_l1 : AC :=
  (.seq (.seq (.reg [⟨some 98, none, .mv (.t 9)⟩, ⟨some 99, none, .mv (.t 3)⟩, ⟨some 100, none, .len (.t 99)⟩, ⟨some 101, none, .bin .lss (.t 98) (.t 100)⟩])
  (.cond (.t 101)
   .skip
   (.exit 6)))
  (.seq (.blk 7
   (.seq (.regq [⟨some 104, none, .mv (.t 3)⟩, ⟨some 105, none, .mv (.t 9)⟩, ⟨some 106, none, .ias 18 (.t 104) (.t 105)⟩, ⟨some 107, none, .ld true 18 (.t 106)⟩, ⟨some 108, none, .ld true 18 (.t 8)⟩, ⟨some 109, none, .eq false (.agg (kk [(1, .i .i64), (16, .i .u8), (1, .i .i64)])) (.t 107) (.t 108)⟩])
   (.cond (.t 109)
    (.seq (.reg [⟨some 2, none, .mv (.k (.b false))⟩])
    .ret)
    .skip)))
  (.reg [⟨some 102, none, .mv (.t 9)⟩, ⟨some 103, none, .bin .add (.t 102) (.k (.i .i64 1))⟩, ⟨some 9, none, .mv (.t 103)⟩])))
noncomputable def c_r34_Right_l2 : AC :=
  (.seq (.seq (.reg [⟨some 68, none, .mv (.t 7)⟩, ⟨some 69, none, .fa 85 (.t 5)⟩, ⟨some 70, none, .ld false 1 (.t 69)⟩, ⟨some 71, none, .len (.t 70)⟩, ⟨some 72, none, .bin .lss (.t 68) (.t 71)⟩])
  (.cond (.t 72)
   .skip
   (.exit 4)))
  (.seq (.blk 5
   (.seq (.reg [⟨some 75, none, .fa 85 (.t 5)⟩, ⟨some 76, none, .ld false 1 (.t 75)⟩, ⟨some 77, none, .mv (.t 7)⟩, ⟨some 78, none, .ias 18 (.t 76) (.t 77)⟩, ⟨some 79, none, .ld true 18 (.t 78)⟩, ⟨some 8, none, .alloc z_api_Prefix⟩, ⟨none, none, .st 18 (.t 8) (.t 79)⟩])
   (.seq (.seq (.regq [⟨some 80, none, .ld true 18 (.t 8)⟩, ⟨some 81, none, .call fn_r11_Right [(.t 80)]⟩, ⟨some 82, none, .un .not (.t 81)⟩, ⟨some 83, none, .mv (.t 82)⟩, ⟨some 84, some (83, false), .mv (.t 7)⟩, ⟨some 85, some (83, false), .bin .gtr (.t 84) (.k (.i .i64 0))⟩, ⟨some 86, some (83, false), .mv (.t 85)⟩, ⟨some 87, some (86, true), .fa 85 (.t 5)⟩, ⟨some 88, some (86, true), .ld false 1 (.t 87)⟩, ⟨some 89, some (86, true), .mv (.t 7)⟩, ⟨some 90, some (86, true), .bin .sub (.t 89) (.k (.i .i64 1))⟩, ⟨some 91, some (86, true), .ias 18 (.t 88) (.t 90)⟩, ⟨some 92, some (86, true), .ld true 18 (.t 91)⟩, ⟨some 93, some (86, true), .ld true 18 (.t 8)⟩, ⟨some 94, some (86, true), .call fn_r11_Less [(.t 92), (.t 93)]⟩, ⟨some 95, some (86, true), .un .not (.t 94)⟩, ⟨some 96, some (83, false), .pick (.t 86) (.t 95) (.k (.b false))⟩, ⟨some 97, none, .pick (.t 83) (.k (.b true)) (.t 96)⟩])
   (.cond (.t 97)
    (.seq (.reg [⟨some 2, none, .mv (.k (.b false))⟩])
    .ret)
    .skip))
   (.seq (.seq (.reg [⟨some 9, none, .mv (.k (.i .i64 0))⟩])
   (.blk 6
    (.loop [1, 3, 4, 5, 7, 8, 9] c_r34_Right_l1)))
   (.reg [⟨some 110, none, .mv (.t 3)⟩, ⟨some 111, none, .ld true 18 (.t 8)⟩, ⟨some 112, none, .bll 18 (List.replicate 1 z_api_Prefix) [(0, (.t 111))]⟩, ⟨some 113, none, .app 18 32 (.t 110) (.t 112)⟩, ⟨some 3, none, .mv (.t 113)⟩])))))
  (.reg [⟨some 73, none, .mv (.t 7)⟩, ⟨some 74, none, .bin .add (.t 73) (.k (.i .i64 1))⟩, ⟨some 7, none, .mv (.t 74)⟩])))
noncomputable def c_r34_Right_l3 : AC :=
  (.seq (.seq (.reg [⟨some 20, none, .mv (.t 4)⟩, ⟨some 21, none, .fa 34 (.t 1)⟩, ⟨some 22, none, .ld false 1 (.t 21)⟩, ⟨some 23, none, .len (.t 22)⟩, ⟨some 24, none, .bin .lss (.t 20) (.t 23)⟩])
  (.cond (.t 24)
   .skip
   (.exit 0)))
  (.seq (.blk 1
   (.seq (.reg [⟨some 27, none, .fa 34 (.t 1)⟩, ⟨some 28, none, .ld false 1 (.t 27)⟩, ⟨some 29, none, .mv (.t 4)⟩, ⟨some 30, none, .ias 86 (.t 28) (.t 29)⟩, ⟨some 31, none, .ld true 86 (.t 30)⟩, ⟨some 5, none, .alloc z_api_Peer⟩, ⟨none, none, .st 86 (.t 5) (.t 31)⟩])
   (.seq (.seq (.reg [⟨some 32, none, .fa 0 (.t 5)⟩, ⟨some 33, none, .ld true 32 (.t 32)⟩, ⟨some 34, none, .bld z_api_Key []⟩, ⟨some 35, none, .eq false (.agg (kk [(32, .i .u8)])) (.t 33) (.t 34)⟩, ⟨some 36, none, .mv (.t 35)⟩, ⟨some 37, some (36, false), .fa 82 (.t 5)⟩, ⟨some 38, some (36, false), .ld false 1 (.t 37)⟩, ⟨some 39, some (36, false), .call fn_r34_from [(.t 38)]⟩, ⟨some 40, some (36, false), .un .not (.t 39)⟩, ⟨some 41, none, .pick (.t 36) (.k (.b true)) (.t 40)⟩, ⟨some 42, none, .mv (.t 41)⟩, ⟨some 43, some (42, false), .fa 64 (.t 5)⟩, ⟨some 44, some (42, false), .ld true 18 (.t 43)⟩, ⟨some 45, some (42, false), .bld z_api_Endpoint []⟩, ⟨some 46, some (42, false), .eq true (.agg (kk [(1, .i .i64), (16, .i .u8), (1, .i .i64)])) (.t 44) (.t 45)⟩, ⟨some 47, some (42, false), .mv (.t 46)⟩, ⟨some 48, some (47, true), .fa 64 (.t 5)⟩, ⟨some 49, some (47, true), .ld true 18 (.t 48)⟩, ⟨some 50, some (47, true), .call fn_r12_Right [(.t 49)]⟩, ⟨some 51, some (47, true), .un .not (.t 50)⟩, ⟨some 52, some (42, false), .pick (.t 47) (.t 51) (.k (.b false))⟩, ⟨some 53, none, .pick (.t 42) (.k (.b true)) (.t 52)⟩])
   (.cond (.t 53)
    (.seq (.reg [⟨some 2, none, .mv (.k (.b false))⟩])
    .ret)
    .skip))
   (.seq (.seq (.reg [⟨some 6, none, .mv (.k (.i .i64 0))⟩])
   (.blk 2
    (.loop [1, 3, 4, 5, 6] c_r34_Right_l0)))
   (.seq (.reg [⟨some 7, none, .mv (.k (.i .i64 0))⟩])
   (.blk 4
    (.loop [1, 3, 4, 5, 7] c_r34_Right_l2)))))))
  (.reg [⟨some 25, none, .mv (.t 4)⟩, ⟨some 26, none, .bin .add (.t 25) (.k (.i .i64 1))⟩, ⟨some 4, none, .mv (.t 26)⟩])))
noncomputable def c_r34_Right : AFn := ⟨1, 117, [.tmp 2],
  (.seq (.reg [⟨some 1, none, .box 35 (.t 0)⟩, ⟨some 2, none, .mv (.k (.b false))⟩])
  (.seq (.seq (.reg [⟨some 10, none, .fa 32 (.t 1)⟩, ⟨some 11, none, .ld false 1 (.t 10)⟩, ⟨some 12, none, .call fn_r34_from [(.t 11)]⟩, ⟨some 13, none, .un .not (.t 12)⟩, ⟨some 14, none, .mv (.t 13)⟩, ⟨some 15, some (14, false), .fa 34 (.t 1)⟩, ⟨some 16, some (14, false), .ld false 1 (.t 15)⟩, ⟨some 17, some (14, false), .len (.t 16)⟩, ⟨some 18, some (14, false), .bin .gtr (.t 17) (.k (.i .i64 16))⟩, ⟨some 19, none, .pick (.t 14) (.k (.b true)) (.t 18)⟩])
  (.cond (.t 19)
   (.seq (.reg [⟨some 2, none, .mv (.k (.b false))⟩])
   .ret)
   .skip))
  (.seq (.reg [⟨some 3, none, .mv (.k (.nils))⟩])
  (.seq (.seq (.reg [⟨some 4, none, .mv (.k (.i .i64 0))⟩])
  (.blk 0
   (.loop [1, 3, 4] c_r34_Right_l3)))
  (.seq (.reg [⟨some 114, none, .mv (.t 3)⟩, ⟨some 115, none, .len (.t 114)⟩, ⟨some 116, none, .bin .leq (.t 115) (.k (.i .i64 64))⟩, ⟨some 2, none, .mv (.t 116)⟩])
  .ret)))))⟩
noncomputable def c_iniwrite_Right : AFn := ⟨1, 18, [.tmp 2],
  (.seq (.reg [⟨some 1, none, .box 35 (.t 0)⟩, ⟨some 2, none, .mv (.k (.b false))⟩])
  (.seq (.reg [⟨some 3, none, .fa 32 (.t 1)⟩, ⟨some 4, none, .ld false 1 (.t 3)⟩, ⟨some 5, none, .call fn_iniwrite_short [(.t 4)]⟩, ⟨some 6, none, .mv (.t 5)⟩, ⟨some 7, some (6, true), .fa 34 (.t 1)⟩, ⟨some 8, some (6, true), .ld false 1 (.t 7)⟩, ⟨some 9, some (6, true), .len (.t 8)⟩, ⟨some 10, some (6, true), .bin .leq (.t 9) (.k (.i .i64 64))⟩, ⟨some 11, none, .pick (.t 6) (.t 10) (.k (.b false))⟩, ⟨some 12, none, .mv (.t 11)⟩, ⟨some 13, some (12, true), .fa 34 (.t 1)⟩, ⟨some 14, some (12, true), .ld false 1 (.t 13)⟩, ⟨some 15, some (12, true), .call fn_slices_ContainsFunc_api_IniPeer [(.t 14), (.f fn_iniwrite_wrong)]⟩, ⟨some 16, some (12, true), .un .not (.t 15)⟩, ⟨some 17, none, .pick (.t 12) (.t 16) (.k (.b false))⟩, ⟨some 2, none, .mv (.t 17)⟩])
  .ret))⟩
noncomputable def c_r43_Large_l0 : AC :=
  (.seq (.seq (.reg [⟨some 8, none, .mv (.t 3)⟩, ⟨some 9, none, .fa 34 (.t 1)⟩, ⟨some 10, none, .ld false 1 (.t 9)⟩, ⟨some 11, none, .len (.t 10)⟩, ⟨some 12, none, .bin .lss (.t 8) (.t 11)⟩])
  (.cond (.t 12)
   .skip
   (.exit 0)))
  (.seq (.blk 1
   (.seq (.reg [⟨some 15, none, .fa 34 (.t 1)⟩, ⟨some 16, none, .ld false 1 (.t 15)⟩, ⟨some 17, none, .mv (.t 3)⟩, ⟨some 18, none, .ias 84 (.t 16) (.t 17)⟩, ⟨some 19, none, .fa 83 (.t 18)⟩, ⟨some 20, none, .ld false 1 (.t 19)⟩, ⟨some 21, none, .len (.t 20)⟩, ⟨some 22, none, .bin .gtr (.t 21) (.k (.i .i64 80))⟩])
   (.cond (.t 22)
    (.seq (.reg [⟨some 2, none, .mv (.k (.b true))⟩])
    .ret)
    .skip)))
  (.reg [⟨some 13, none, .mv (.t 3)⟩, ⟨some 14, none, .bin .add (.t 13) (.k (.i .i64 1))⟩, ⟨some 3, none, .mv (.t 14)⟩])))
noncomputable def c_r43_Large : AFn := ⟨1, 23, [.tmp 2],
  (.seq (.reg [⟨some 1, none, .box 35 (.t 0)⟩, ⟨some 2, none, .mv (.k (.b false))⟩])
  (.seq (.seq (.reg [⟨some 4, none, .fa 34 (.t 1)⟩, ⟨some 5, none, .ld false 1 (.t 4)⟩, ⟨some 6, none, .len (.t 5)⟩, ⟨some 7, none, .bin .gtr (.t 6) (.k (.i .i64 80))⟩])
  (.cond (.t 7)
   (.seq (.reg [⟨some 2, none, .mv (.k (.b true))⟩])
   .ret)
   .skip))
  (.seq (.seq (.reg [⟨some 3, none, .mv (.k (.i .i64 0))⟩])
  (.blk 0
   (.loop [1, 3] c_r43_Large_l0)))
  (.seq (.reg [⟨some 2, none, .mv (.k (.b false))⟩])
  .ret))))⟩
noncomputable def c_compile_Request : AFn := ⟨1, 19, [.cell true 39 2],
  (.seq (.reg [⟨some 1, none, .box 35 (.t 0)⟩, ⟨some 2, none, .alloc z_api_Request⟩])
  (.seq (.reg [⟨some 4, none, .bld z_api_Request [(0, 1, (.k (.b true))), (33, 1, (.k (.b true))), (35, 1, (.k (.b true))), (37, 1, (.k (.b true)))]⟩, ⟨some 3, none, .alloc z_api_Request⟩, ⟨none, none, .st 39 (.t 3) (.t 4)⟩])
  (.seq (.regd [⟨some 5, none, .fa 0 (.t 1)⟩, ⟨some 6, none, .ld true 32 (.t 5)⟩, ⟨some 7, none, .fa 32 (.t 1)⟩, ⟨some 8, none, .ld false 1 (.t 7)⟩, ⟨some 9, none, .fa 33 (.t 1)⟩, ⟨some 10, none, .ld false 1 (.t 9)⟩, ⟨some 11, none, .fa 1 (.t 3)⟩, ⟨none, none, .st 32 (.t 11) (.t 6)⟩, ⟨some 12, none, .fa 34 (.t 3)⟩, ⟨none, none, .st 1 (.t 12) (.t 8)⟩, ⟨some 13, none, .fa 36 (.t 3)⟩, ⟨none, none, .st 1 (.t 13) (.t 10)⟩] [some (0, 0), some (0, 0), some (0, 1), some (0, 1), some (0, 2), some (0, 2), some (0, 0), none, some (1, 1), none, some (2, 2), none])
  (.seq (.reg [⟨some 14, none, .fa 34 (.t 1)⟩, ⟨some 15, none, .ld false 1 (.t 14)⟩, ⟨some 16, none, .call fn_compile_each_api_IniPeer_api_PeerChange [(.t 15), (.f fn_compile_Request_1)]⟩, ⟨some 17, none, .fa 38 (.t 3)⟩, ⟨none, none, .st 1 (.t 17) (.t 16)⟩])
  (.seq (.reg [⟨some 18, none, .ld true 39 (.t 3)⟩, ⟨none, none, .st 39 (.t 2) (.t 18)⟩])
  .ret)))))⟩
noncomputable def c_r32_Same_l0 : AC :=
  (.seq (.seq (.reg [⟨some 62, none, .mv (.t 5)⟩, ⟨some 63, none, .fa 38 (.t 2)⟩, ⟨some 64, none, .ld false 1 (.t 63)⟩, ⟨some 65, none, .len (.t 64)⟩, ⟨some 66, none, .bin .lss (.t 62) (.t 65)⟩])
  (.cond (.t 66)
   .skip
   (.exit 0)))
  (.seq (.blk 1
   (.seq (.regq [⟨some 69, none, .fa 38 (.t 2)⟩, ⟨some 70, none, .ld false 1 (.t 69)⟩, ⟨some 71, none, .mv (.t 5)⟩, ⟨some 72, none, .ias 90 (.t 70) (.t 71)⟩, ⟨some 73, none, .ld true 90 (.t 72)⟩, ⟨some 74, none, .fa 38 (.t 3)⟩, ⟨some 75, none, .ld false 1 (.t 74)⟩, ⟨some 76, none, .mv (.t 5)⟩, ⟨some 77, none, .ias 90 (.t 75) (.t 76)⟩, ⟨some 78, none, .ld true 90 (.t 77)⟩, ⟨some 79, none, .call fn_r32_SamePeer [(.t 73), (.t 78)]⟩, ⟨some 80, none, .un .not (.t 79)⟩])
   (.cond (.t 80)
    (.seq (.reg [⟨some 4, none, .mv (.k (.b false))⟩])
    .ret)
    .skip)))
  (.reg [⟨some 67, none, .mv (.t 5)⟩, ⟨some 68, none, .bin .add (.t 67) (.k (.i .i64 1))⟩, ⟨some 5, none, .mv (.t 68)⟩])))
noncomputable def c_r32_Same : AFn := ⟨2, 81, [.tmp 4],
  (.seq (.reg [⟨some 2, none, .box 39 (.t 0)⟩, ⟨some 3, none, .box 39 (.t 1)⟩, ⟨some 4, none, .mv (.k (.b false))⟩])
  (.seq (.seq (.reg [⟨some 6, none, .fa 0 (.t 2)⟩, ⟨some 7, none, .ld false 1 (.t 6)⟩, ⟨some 8, none, .fa 0 (.t 3)⟩, ⟨some 9, none, .ld false 1 (.t 8)⟩, ⟨some 10, none, .eq true (.one (.b)) (.t 7) (.t 9)⟩, ⟨some 11, none, .mv (.t 10)⟩, ⟨some 12, some (11, false), .fa 1 (.t 2)⟩, ⟨some 13, some (11, false), .ld true 32 (.t 12)⟩, ⟨some 14, some (11, false), .fa 1 (.t 3)⟩, ⟨some 15, some (11, false), .ld true 32 (.t 14)⟩, ⟨some 16, some (11, false), .eq true (.agg (kk [(32, .i .u8)])) (.t 13) (.t 15)⟩, ⟨some 17, none, .pick (.t 11) (.k (.b true)) (.t 16)⟩, ⟨some 18, none, .mv (.t 17)⟩, ⟨some 19, some (18, false), .fa 33 (.t 2)⟩, ⟨some 20, some (18, false), .ld false 1 (.t 19)⟩, ⟨some 21, some (18, false), .fa 33 (.t 3)⟩, ⟨some 22, some (18, false), .ld false 1 (.t 21)⟩, ⟨some 23, some (18, false), .eq true (.one (.b)) (.t 20) (.t 22)⟩, ⟨some 24, none, .pick (.t 18) (.k (.b true)) (.t 23)⟩, ⟨some 25, none, .mv (.t 24)⟩, ⟨some 26, some (25, false), .fa 34 (.t 2)⟩, ⟨some 27, some (25, false), .ld false 1 (.t 26)⟩, ⟨some 28, some (25, false), .fa 34 (.t 3)⟩, ⟨some 29, some (25, false), .ld false 1 (.t 28)⟩, ⟨some 30, some (25, false), .bin .neq (.t 27) (.t 29)⟩, ⟨some 31, none, .pick (.t 25) (.k (.b true)) (.t 30)⟩, ⟨some 32, none, .mv (.t 31)⟩, ⟨some 33, some (32, false), .fa 35 (.t 2)⟩, ⟨some 34, some (32, false), .ld false 1 (.t 33)⟩, ⟨some 35, some (32, false), .fa 35 (.t 3)⟩, ⟨some 36, some (32, false), .ld false 1 (.t 35)⟩, ⟨some 37, some (32, false), .eq true (.one (.b)) (.t 34) (.t 36)⟩, ⟨some 38, none, .pick (.t 32) (.k (.b true)) (.t 37)⟩, ⟨some 39, none, .mv (.t 38)⟩, ⟨some 40, some (39, false), .fa 36 (.t 2)⟩, ⟨some 41, some (39, false), .ld false 1 (.t 40)⟩, ⟨some 42, some (39, false), .fa 36 (.t 3)⟩, ⟨some 43, some (39, false), .ld false 1 (.t 42)⟩, ⟨some 44, some (39, false), .bin .neq (.t 41) (.t 43)⟩, ⟨some 45, none, .pick (.t 39) (.k (.b true)) (.t 44)⟩, ⟨some 46, none, .mv (.t 45)⟩, ⟨some 47, some (46, false), .fa 37 (.t 2)⟩, ⟨some 48, some (46, false), .ld false 1 (.t 47)⟩, ⟨some 49, some (46, false), .fa 37 (.t 3)⟩, ⟨some 50, some (46, false), .ld false 1 (.t 49)⟩, ⟨some 51, some (46, false), .eq true (.one (.b)) (.t 48) (.t 50)⟩, ⟨some 52, none, .pick (.t 46) (.k (.b true)) (.t 51)⟩, ⟨some 53, none, .mv (.t 52)⟩, ⟨some 54, some (53, false), .fa 38 (.t 2)⟩, ⟨some 55, some (53, false), .ld false 1 (.t 54)⟩, ⟨some 56, some (53, false), .len (.t 55)⟩, ⟨some 57, some (53, false), .fa 38 (.t 3)⟩, ⟨some 58, some (53, false), .ld false 1 (.t 57)⟩, ⟨some 59, some (53, false), .len (.t 58)⟩, ⟨some 60, some (53, false), .bin .neq (.t 56) (.t 59)⟩, ⟨some 61, none, .pick (.t 53) (.k (.b true)) (.t 60)⟩])
  (.cond (.t 61)
   (.seq (.reg [⟨some 4, none, .mv (.k (.b false))⟩])
   .ret)
   .skip))
  (.seq (.seq (.reg [⟨some 5, none, .mv (.k (.i .i64 0))⟩])
  (.blk 0
   (.loop [2, 3, 5] c_r32_Same_l0)))
  (.seq (.reg [⟨some 4, none, .mv (.k (.b true))⟩])
  .ret))))⟩
noncomputable def c_r45_Request_l0 : AC :=
  (.seq (.seq (.reg [⟨some 13, none, .mv (.t 4)⟩, ⟨some 14, none, .fa 34 (.t 1)⟩, ⟨some 15, none, .ld false 1 (.t 14)⟩, ⟨some 16, none, .len (.t 15)⟩, ⟨some 17, none, .bin .lss (.t 13) (.t 16)⟩])
  (.cond (.t 17)
   .skip
   (.exit 0)))
  (.seq (.blk 1
   (.seq (.reg [⟨some 20, none, .fa 34 (.t 1)⟩, ⟨some 21, none, .ld false 1 (.t 20)⟩, ⟨some 22, none, .mv (.t 4)⟩, ⟨some 23, none, .ias 84 (.t 21) (.t 22)⟩, ⟨some 24, none, .ld true 84 (.t 23)⟩, ⟨some 5, none, .alloc z_api_IniPeer⟩, ⟨none, none, .st 84 (.t 5) (.t 24)⟩])
   (.regd [⟨some 25, none, .fa 38 (.t 3)⟩, ⟨some 26, none, .ld false 1 (.t 25)⟩, ⟨some 27, none, .fa 0 (.t 5)⟩, ⟨some 28, none, .ld true 32 (.t 27)⟩, ⟨some 29, none, .fa 32 (.t 5)⟩, ⟨some 30, none, .ld true 32 (.t 29)⟩, ⟨some 31, none, .fa 64 (.t 5)⟩, ⟨some 32, none, .ld true 18 (.t 31)⟩, ⟨some 33, none, .bld z_api_Endpoint []⟩, ⟨some 34, none, .eq true (.agg (kk [(1, .i .i64), (16, .i .u8), (1, .i .i64)])) (.t 32) (.t 33)⟩, ⟨some 35, none, .fa 64 (.t 5)⟩, ⟨some 36, none, .ld true 18 (.t 35)⟩, ⟨some 37, none, .fa 82 (.t 5)⟩, ⟨some 38, none, .ld false 1 (.t 37)⟩, ⟨some 39, none, .fa 83 (.t 5)⟩, ⟨some 40, none, .ld false 1 (.t 39)⟩, ⟨some 41, none, .bld z_api_PeerChange [(0, 32, (.t 28)), (34, 1, (.k (.b true))), (35, 32, (.t 30)), (67, 1, (.t 34)), (68, 18, (.t 36)), (86, 1, (.k (.b true))), (87, 1, (.t 38)), (88, 1, (.k (.b true))), (89, 1, (.t 40))]⟩, ⟨some 42, none, .bll 90 (List.replicate 1 z_api_PeerChange) [(0, (.t 41))]⟩, ⟨some 43, none, .app 90 152 (.t 26) (.t 42)⟩, ⟨some 44, none, .fa 38 (.t 3)⟩, ⟨none, none, .st 1 (.t 44) (.t 43)⟩] [some (0, 0), some (0, 0), some (0, 0), some (0, 0), some (0, 0), some (0, 0), some (0, 0), some (0, 0), some (0, 0), some (0, 0), some (0, 0), some (0, 0), some (0, 0), some (0, 0), some (0, 0), some (0, 0), some (0, 0), some (0, 0), none, some (1, 1), none])))
  (.reg [⟨some 18, none, .mv (.t 4)⟩, ⟨some 19, none, .bin .add (.t 18) (.k (.i .i64 1))⟩, ⟨some 4, none, .mv (.t 19)⟩])))
noncomputable def c_r45_Request : AFn := ⟨1, 46, [.cell true 39 2],
  (.seq (.reg [⟨some 1, none, .box 35 (.t 0)⟩, ⟨some 2, none, .alloc z_api_Request⟩])
  (.seq (.reg [⟨some 6, none, .fa 0 (.t 1)⟩, ⟨some 7, none, .ld true 32 (.t 6)⟩, ⟨some 8, none, .fa 32 (.t 1)⟩, ⟨some 9, none, .ld false 1 (.t 8)⟩, ⟨some 10, none, .fa 33 (.t 1)⟩, ⟨some 11, none, .ld false 1 (.t 10)⟩, ⟨some 12, none, .bld z_api_Request [(0, 1, (.k (.b true))), (1, 32, (.t 7)), (33, 1, (.k (.b true))), (34, 1, (.t 9)), (35, 1, (.k (.b true))), (36, 1, (.t 11)), (37, 1, (.k (.b true)))]⟩, ⟨some 3, none, .alloc z_api_Request⟩, ⟨none, none, .st 39 (.t 3) (.t 12)⟩])
  (.seq (.seq (.reg [⟨some 4, none, .mv (.k (.i .i64 0))⟩])
  (.blk 0
   (.loop [1, 2, 3, 4] c_r45_Request_l0)))
  (.seq (.reg [⟨some 45, none, .ld true 39 (.t 3)⟩, ⟨none, none, .st 39 (.t 2) (.t 45)⟩])
  .ret))))⟩
noncomputable def c_r44_Right_l0 : AC :=
  (.seq (.seq (.reg [⟨some 56, none, .mv (.t 5)⟩, ⟨some 57, none, .fa 83 (.t 4)⟩, ⟨some 58, none, .ld false 1 (.t 57)⟩, ⟨some 59, none, .len (.t 58)⟩, ⟨some 60, none, .bin .lss (.t 56) (.t 59)⟩])
  (.cond (.t 60)
   .skip
   (.exit 2)))
  (.seq (.blk 3
   (.seq (.reg [⟨some 63, none, .fa 83 (.t 4)⟩, ⟨some 64, none, .ld false 1 (.t 63)⟩, ⟨some 65, none, .mv (.t 5)⟩, ⟨some 66, none, .ias 18 (.t 64) (.t 65)⟩, ⟨some 67, none, .ld true 18 (.t 66)⟩, ⟨some 68, none, .call fn_r11_Right [(.t 67)]⟩, ⟨some 69, none, .un .not (.t 68)⟩])
   (.cond (.t 69)
    (.seq (.reg [⟨some 2, none, .mv (.k (.b false))⟩])
    .ret)
    .skip)))
  (.reg [⟨some 61, none, .mv (.t 5)⟩, ⟨some 62, none, .bin .add (.t 61) (.k (.i .i64 1))⟩, ⟨some 5, none, .mv (.t 62)⟩])))
noncomputable def c_r44_Right_l1 : AC :=
  (.seq (.seq (.reg [⟨some 16, none, .mv (.t 3)⟩, ⟨some 17, none, .fa 34 (.t 1)⟩, ⟨some 18, none, .ld false 1 (.t 17)⟩, ⟨some 19, none, .len (.t 18)⟩, ⟨some 20, none, .bin .lss (.t 16) (.t 19)⟩])
  (.cond (.t 20)
   .skip
   (.exit 0)))
  (.seq (.blk 1
   (.seq (.reg [⟨some 23, none, .fa 34 (.t 1)⟩, ⟨some 24, none, .ld false 1 (.t 23)⟩, ⟨some 25, none, .mv (.t 3)⟩, ⟨some 26, none, .ias 84 (.t 24) (.t 25)⟩, ⟨some 27, none, .ld true 84 (.t 26)⟩, ⟨some 4, none, .alloc z_api_IniPeer⟩, ⟨none, none, .st 84 (.t 4) (.t 27)⟩])
   (.seq (.seq (.reg [⟨some 28, none, .fa 0 (.t 4)⟩, ⟨some 29, none, .ld true 32 (.t 28)⟩, ⟨some 30, none, .bld z_api_Key []⟩, ⟨some 31, none, .eq false (.agg (kk [(32, .i .u8)])) (.t 29) (.t 30)⟩, ⟨some 32, none, .mv (.t 31)⟩, ⟨some 33, some (32, false), .fa 64 (.t 4)⟩, ⟨some 34, some (32, false), .ld true 18 (.t 33)⟩, ⟨some 35, some (32, false), .bld z_api_Endpoint []⟩, ⟨some 36, some (32, false), .eq true (.agg (kk [(1, .i .i64), (16, .i .u8), (1, .i .i64)])) (.t 34) (.t 35)⟩, ⟨some 37, some (32, false), .mv (.t 36)⟩, ⟨some 38, some (37, true), .fa 64 (.t 4)⟩, ⟨some 39, some (37, true), .ld true 18 (.t 38)⟩, ⟨some 40, some (37, true), .call fn_r12_Right [(.t 39)]⟩, ⟨some 41, some (37, true), .un .not (.t 40)⟩, ⟨some 42, some (32, false), .pick (.t 37) (.t 41) (.k (.b false))⟩, ⟨some 43, none, .pick (.t 32) (.k (.b true)) (.t 42)⟩, ⟨some 44, none, .mv (.t 43)⟩, ⟨some 45, some (44, false), .fa 82 (.t 4)⟩, ⟨some 46, some (44, false), .ld false 1 (.t 45)⟩, ⟨some 47, some (44, false), .call fn_r44_from [(.t 46)]⟩, ⟨some 48, some (44, false), .un .not (.t 47)⟩, ⟨some 49, none, .pick (.t 44) (.k (.b true)) (.t 48)⟩, ⟨some 50, none, .mv (.t 49)⟩, ⟨some 51, some (50, false), .fa 83 (.t 4)⟩, ⟨some 52, some (50, false), .ld false 1 (.t 51)⟩, ⟨some 53, some (50, false), .len (.t 52)⟩, ⟨some 54, some (50, false), .bin .gtr (.t 53) (.k (.i .i64 64))⟩, ⟨some 55, none, .pick (.t 50) (.k (.b true)) (.t 54)⟩])
   (.cond (.t 55)
    (.seq (.reg [⟨some 2, none, .mv (.k (.b false))⟩])
    .ret)
    .skip))
   (.seq (.reg [⟨some 5, none, .mv (.k (.i .i64 0))⟩])
   (.blk 2
    (.loop [1, 3, 4, 5] c_r44_Right_l0))))))
  (.reg [⟨some 21, none, .mv (.t 3)⟩, ⟨some 22, none, .bin .add (.t 21) (.k (.i .i64 1))⟩, ⟨some 3, none, .mv (.t 22)⟩])))
noncomputable def c_r44_Right : AFn := ⟨1, 70, [.tmp 2],
  (.seq (.reg [⟨some 1, none, .box 35 (.t 0)⟩, ⟨some 2, none, .mv (.k (.b false))⟩])
  (.seq (.seq (.reg [⟨some 6, none, .fa 32 (.t 1)⟩, ⟨some 7, none, .ld false 1 (.t 6)⟩, ⟨some 8, none, .call fn_r44_from [(.t 7)]⟩, ⟨some 9, none, .un .not (.t 8)⟩, ⟨some 10, none, .mv (.t 9)⟩, ⟨some 11, some (10, false), .fa 34 (.t 1)⟩, ⟨some 12, some (10, false), .ld false 1 (.t 11)⟩, ⟨some 13, some (10, false), .len (.t 12)⟩, ⟨some 14, some (10, false), .bin .gtr (.t 13) (.k (.i .i64 64))⟩, ⟨some 15, none, .pick (.t 10) (.k (.b true)) (.t 14)⟩])
  (.cond (.t 15)
   (.seq (.reg [⟨some 2, none, .mv (.k (.b false))⟩])
   .ret)
   .skip))
  (.seq (.seq (.reg [⟨some 3, none, .mv (.k (.i .i64 0))⟩])
  (.blk 0
   (.loop [1, 3] c_r44_Right_l1)))
  (.seq (.reg [⟨some 2, none, .mv (.k (.b true))⟩])
  .ret))))⟩
noncomputable def c_change_Right : AFn := ⟨1, 41, [.tmp 2],
  (.seq (.reg [⟨some 1, none, .box 39 (.t 0)⟩, ⟨some 2, none, .mv (.k (.b false))⟩])
  (.seq (.blk 0
   (.seq (.reg [⟨some 4, none, .fa 0 (.t 1)⟩, ⟨some 5, none, .ld false 1 (.t 4)⟩, ⟨some 6, none, .fa 1 (.t 1)⟩, ⟨some 7, none, .ld true 32 (.t 6)⟩, ⟨some 8, none, .call fn_change_only_api_Key [(.t 5), (.t 7)]⟩, ⟨some 9, none, .un .not (.t 8)⟩, ⟨some 10, none, .mv (.t 9)⟩, ⟨some 11, some (10, false), .fa 33 (.t 1)⟩, ⟨some 12, some (10, false), .ld false 1 (.t 11)⟩, ⟨some 13, some (10, false), .fa 34 (.t 1)⟩, ⟨some 14, some (10, false), .ld false 1 (.t 13)⟩, ⟨some 15, some (10, false), .call fn_change_only_int [(.t 12), (.t 14)]⟩, ⟨some 16, some (10, false), .un .not (.t 15)⟩, ⟨some 17, none, .pick (.t 10) (.k (.b true)) (.t 16)⟩, ⟨some 18, none, .mv (.t 17)⟩, ⟨some 19, some (18, false), .fa 35 (.t 1)⟩, ⟨some 20, some (18, false), .ld false 1 (.t 19)⟩, ⟨some 21, some (18, false), .fa 36 (.t 1)⟩, ⟨some 22, some (18, false), .ld false 1 (.t 21)⟩, ⟨some 23, some (18, false), .call fn_change_only_uint32 [(.t 20), (.t 22)]⟩, ⟨some 24, some (18, false), .un .not (.t 23)⟩, ⟨some 25, none, .pick (.t 18) (.k (.b true)) (.t 24)⟩, ⟨some 3, none, .mv (.t 25)⟩])
   (.cond (.t 3)
    (.seq (.reg [⟨some 2, none, .mv (.k (.b false))⟩])
    .ret)
    (.seq (.reg [⟨some 27, none, .fa 34 (.t 1)⟩, ⟨some 28, none, .ld false 1 (.t 27)⟩, ⟨some 29, none, .call fn_change_short [(.t 28)]⟩, ⟨some 30, none, .un .not (.t 29)⟩, ⟨some 31, none, .mv (.t 30)⟩, ⟨some 32, some (31, false), .fa 38 (.t 1)⟩, ⟨some 33, some (31, false), .ld false 1 (.t 32)⟩, ⟨some 34, some (31, false), .len (.t 33)⟩, ⟨some 35, some (31, false), .bin .gtr (.t 34) (.k (.i .i64 64))⟩, ⟨some 36, none, .pick (.t 31) (.k (.b true)) (.t 35)⟩, ⟨some 26, none, .mv (.t 36)⟩])
    (.cond (.t 26)
     (.seq (.reg [⟨some 2, none, .mv (.k (.b false))⟩])
     .ret)
     .skip)))))
  (.seq (.reg [⟨some 37, none, .fa 38 (.t 1)⟩, ⟨some 38, none, .ld false 1 (.t 37)⟩, ⟨some 39, none, .call fn_slices_ContainsFunc_api_PeerChange [(.t 38), (.f fn_change_Right_1)]⟩, ⟨some 40, none, .un .not (.t 39)⟩, ⟨some 2, none, .mv (.t 40)⟩])
  .ret)))⟩
noncomputable def c_compile_each_api_Peer_api_IniPeer_l0 : AC :=
  (.seq (.reg [⟨some 11, none, .bin .lss (.t 10) (.t 9)⟩])
  (.seq (.cond (.t 11)
   .skip
   (.exit 0))
  (.seq (.blk 1
   (.seq (.reg [⟨some 12, none, .ias 86 (.t 8) (.t 10)⟩, ⟨some 13, none, .ld true 86 (.t 12)⟩, ⟨some 7, none, .alloc z_api_Peer⟩, ⟨none, none, .st 86 (.t 7) (.t 13)⟩])
   (.reg [⟨some 14, none, .mv (.t 5)⟩, ⟨some 15, none, .mv (.t 1)⟩, ⟨some 16, none, .ld true 86 (.t 7)⟩, ⟨some 17, none, .callv (.t 15) [(.t 16)]⟩, ⟨some 18, none, .bll 84 (List.replicate 1 z_api_IniPeer) [(0, (.t 17))]⟩, ⟨some 19, none, .app 84 128 (.t 14) (.t 18)⟩, ⟨some 5, none, .mv (.t 19)⟩])))
  (.reg [⟨some 20, none, .bin .add (.t 10) (.k (.i .i64 1))⟩, ⟨some 10, none, .mv (.t 20)⟩]))))
noncomputable def c_compile_each_api_Peer_api_IniPeer : AFn := ⟨2, 22, [.tmp 4],
  (.seq (.reg [⟨some 4, none, .mv (.k (.nils))⟩])
  (.seq (.reg [⟨some 5, none, .mv (.k (.nils))⟩])
  (.seq (.seq (.reg [⟨some 8, none, .mv (.t 0)⟩, ⟨some 9, none, .len (.t 8)⟩, ⟨some 10, none, .mv (.k (.i .i64 0))⟩])
  (.blk 0
   (.loop [1, 5, 8, 9, 10] c_compile_each_api_Peer_api_IniPeer_l0)))
  (.seq (.reg [⟨some 21, none, .mv (.t 5)⟩, ⟨some 4, none, .mv (.t 21)⟩])
  .ret))))⟩
noncomputable def c_compile_Of_1 : AFn := ⟨1, 15, [.cell true 84 2],
  (.seq (.reg [⟨some 1, none, .box 86 (.t 0)⟩, ⟨some 2, none, .alloc z_api_IniPeer⟩])
  (.seq (.regd [⟨some 3, none, .fa 0 (.t 1)⟩, ⟨some 4, none, .ld true 32 (.t 3)⟩, ⟨some 5, none, .fa 32 (.t 1)⟩, ⟨some 6, none, .ld true 32 (.t 5)⟩, ⟨some 7, none, .fa 64 (.t 1)⟩, ⟨some 8, none, .ld true 18 (.t 7)⟩, ⟨some 9, none, .fa 82 (.t 1)⟩, ⟨some 10, none, .ld false 1 (.t 9)⟩, ⟨some 11, none, .fa 85 (.t 1)⟩, ⟨some 12, none, .ld false 1 (.t 11)⟩, ⟨some 13, none, .call fn_slices_Clone_api_Prefix [(.t 12)]⟩, ⟨some 14, none, .bld z_api_IniPeer [(0, 32, (.t 4)), (32, 32, (.t 6)), (64, 18, (.t 8)), (82, 1, (.t 10)), (83, 1, (.t 13))]⟩, ⟨none, none, .st 84 (.t 2) (.t 14)⟩] [some (0, 0), some (0, 0), some (0, 0), some (0, 0), some (0, 0), some (0, 0), some (0, 0), some (0, 0), some (0, 0), some (0, 0), some (0, 0), some (0, 0), none])
  .ret))⟩
noncomputable def c_slices_Clone_api_Prefix : AFn := ⟨1, 8, [.tmp 2],
  (.seq (.reg [⟨some 2, none, .mv (.k (.nils))⟩])
  (.seq (.seq (.reg [⟨some 3, none, .mv (.t 0)⟩, ⟨some 4, none, .eq false .sl (.t 3) (.k (.nils))⟩])
  (.cond (.t 4)
   (.seq (.reg [⟨some 2, none, .mv (.k (.nils))⟩])
   .ret)
   .skip))
  (.seq (.reg [⟨some 5, none, .bls 18 (List.replicate 0 z_api_Prefix) []⟩, ⟨some 6, none, .mv (.t 0)⟩, ⟨some 7, none, .app 18 32 (.t 5) (.t 6)⟩, ⟨some 2, none, .mv (.t 7)⟩])
  .ret)))⟩
noncomputable def c_r11_Same_l0 : AC :=
  (.seq (.seq (.reg [⟨some 11, none, .mv (.t 5)⟩, ⟨some 12, none, .mv (.t 0)⟩, ⟨some 13, none, .len (.t 12)⟩, ⟨some 14, none, .bin .lss (.t 11) (.t 13)⟩])
  (.cond (.t 14)
   .skip
   (.exit 0)))
  (.seq (.blk 1
   (.seq (.regq [⟨some 17, none, .mv (.t 0)⟩, ⟨some 18, none, .mv (.t 5)⟩, ⟨some 19, none, .ias 18 (.t 17) (.t 18)⟩, ⟨some 20, none, .ld true 18 (.t 19)⟩, ⟨some 21, none, .mv (.t 1)⟩, ⟨some 22, none, .mv (.t 5)⟩, ⟨some 23, none, .ias 18 (.t 21) (.t 22)⟩, ⟨some 24, none, .ld true 18 (.t 23)⟩, ⟨some 25, none, .eq true (.agg (kk [(1, .i .i64), (16, .i .u8), (1, .i .i64)])) (.t 20) (.t 24)⟩])
   (.cond (.t 25)
    (.seq (.reg [⟨some 4, none, .mv (.k (.b false))⟩])
    .ret)
    .skip)))
  (.reg [⟨some 15, none, .mv (.t 5)⟩, ⟨some 16, none, .bin .add (.t 15) (.k (.i .i64 1))⟩, ⟨some 5, none, .mv (.t 16)⟩])))
noncomputable def c_r11_Same : AFn := ⟨2, 26, [.tmp 4],
  (.seq (.reg [⟨some 4, none, .mv (.k (.b false))⟩])
  (.seq (.seq (.reg [⟨some 6, none, .mv (.t 0)⟩, ⟨some 7, none, .len (.t 6)⟩, ⟨some 8, none, .mv (.t 1)⟩, ⟨some 9, none, .len (.t 8)⟩, ⟨some 10, none, .bin .neq (.t 7) (.t 9)⟩])
  (.cond (.t 10)
   (.seq (.reg [⟨some 4, none, .mv (.k (.b false))⟩])
   .ret)
   .skip))
  (.seq (.seq (.reg [⟨some 5, none, .mv (.k (.i .i64 0))⟩])
  (.blk 0
   (.loop [0, 1, 5] c_r11_Same_l0)))
  (.seq (.reg [⟨some 4, none, .mv (.k (.b true))⟩])
  .ret))))⟩
noncomputable def c_r34_from : AFn := ⟨1, 9, [.tmp 2],
  (.seq (.reg [⟨some 2, none, .mv (.k (.b false))⟩])
  (.seq (.reg [⟨some 3, none, .mv (.t 0)⟩, ⟨some 4, none, .bin .geq (.t 3) (.k (.i .i64 0))⟩, ⟨some 5, none, .mv (.t 4)⟩, ⟨some 6, some (5, true), .mv (.t 0)⟩, ⟨some 7, some (5, true), .bin .leq (.t 6) (.k (.i .i64 65535))⟩, ⟨some 8, none, .pick (.t 5) (.t 7) (.k (.b false))⟩, ⟨some 2, none, .mv (.t 8)⟩])
  .ret))⟩
noncomputable def c_r12_Right : AFn := ⟨1, 16, [.tmp 2],
  (.seq (.reg [⟨some 1, none, .box 18 (.t 0)⟩, ⟨some 2, none, .mv (.k (.b false))⟩])
  (.seq (.reg [⟨some 3, none, .fa 0 (.t 1)⟩, ⟨some 4, none, .ld true 17 (.t 3)⟩, ⟨some 5, none, .call fn_r10_Right [(.t 4)]⟩, ⟨some 6, none, .mv (.t 5)⟩, ⟨some 7, some (6, true), .fa 17 (.t 1)⟩, ⟨some 8, some (6, true), .ld false 1 (.t 7)⟩, ⟨some 9, some (6, true), .bin .geq (.t 8) (.k (.i .i64 1))⟩, ⟨some 10, none, .pick (.t 6) (.t 9) (.k (.b false))⟩, ⟨some 11, none, .mv (.t 10)⟩, ⟨some 12, some (11, true), .fa 17 (.t 1)⟩, ⟨some 13, some (11, true), .ld false 1 (.t 12)⟩, ⟨some 14, some (11, true), .bin .leq (.t 13) (.k (.i .i64 65535))⟩, ⟨some 15, none, .pick (.t 11) (.t 14) (.k (.b false))⟩, ⟨some 2, none, .mv (.t 15)⟩])
  .ret))⟩
noncomputable def c_r11_Right : AFn := ⟨1, 28, [.tmp 2],
  (.seq (.reg [⟨some 1, none, .box 18 (.t 0)⟩, ⟨some 2, none, .mv (.k (.b false))⟩])
  (.seq (.seq (.regq [⟨some 3, none, .fa 0 (.t 1)⟩, ⟨some 4, none, .ld true 17 (.t 3)⟩, ⟨some 5, none, .call fn_r10_Right [(.t 4)]⟩, ⟨some 6, none, .un .not (.t 5)⟩, ⟨some 7, none, .mv (.t 6)⟩, ⟨some 8, some (7, false), .fa 17 (.t 1)⟩, ⟨some 9, some (7, false), .ld false 1 (.t 8)⟩, ⟨some 10, some (7, false), .bin .lss (.t 9) (.k (.i .i64 0))⟩, ⟨some 11, none, .pick (.t 7) (.k (.b true)) (.t 10)⟩, ⟨some 12, none, .mv (.t 11)⟩, ⟨some 13, some (12, false), .fa 17 (.t 1)⟩, ⟨some 14, some (12, false), .ld false 1 (.t 13)⟩, ⟨some 15, some (12, false), .fa 0 (.t 1)⟩, ⟨some 16, some (12, false), .ld true 17 (.t 15)⟩, ⟨some 17, some (12, false), .call fn_r10_Width [(.t 16)]⟩, ⟨some 18, some (12, false), .bin .gtr (.t 14) (.t 17)⟩, ⟨some 19, none, .pick (.t 12) (.k (.b true)) (.t 18)⟩])
  (.cond (.t 19)
   (.seq (.reg [⟨some 2, none, .mv (.k (.b false))⟩])
   .ret)
   .skip))
  (.seq (.regq [⟨some 20, none, .fa 0 (.t 1)⟩, ⟨some 21, none, .ld true 17 (.t 20)⟩, ⟨some 22, none, .fa 0 (.t 1)⟩, ⟨some 23, none, .ld true 17 (.t 22)⟩, ⟨some 24, none, .fa 17 (.t 1)⟩, ⟨some 25, none, .ld false 1 (.t 24)⟩, ⟨some 26, none, .call fn_r10_Mask [(.t 23), (.t 25)]⟩, ⟨some 27, none, .eq false (.agg (kk [(1, .i .i64), (16, .i .u8)])) (.t 21) (.t 26)⟩, ⟨some 2, none, .mv (.t 27)⟩])
  .ret)))⟩
noncomputable def c_r11_Less : AFn := ⟨2, 20, [.tmp 4],
  (.seq (.reg [⟨some 2, none, .box 18 (.t 0)⟩, ⟨some 3, none, .box 18 (.t 1)⟩, ⟨some 4, none, .mv (.k (.b false))⟩])
  (.seq (.seq (.reg [⟨some 5, none, .fa 0 (.t 2)⟩, ⟨some 6, none, .ld true 17 (.t 5)⟩, ⟨some 7, none, .fa 0 (.t 3)⟩, ⟨some 8, none, .ld true 17 (.t 7)⟩, ⟨some 9, none, .eq true (.agg (kk [(1, .i .i64), (16, .i .u8)])) (.t 6) (.t 8)⟩])
  (.cond (.t 9)
   (.seq (.reg [⟨some 10, none, .fa 0 (.t 2)⟩, ⟨some 11, none, .ld true 17 (.t 10)⟩, ⟨some 12, none, .fa 0 (.t 3)⟩, ⟨some 13, none, .ld true 17 (.t 12)⟩, ⟨some 14, none, .call fn_r10_Less [(.t 11), (.t 13)]⟩, ⟨some 4, none, .mv (.t 14)⟩])
   .ret)
   .skip))
  (.seq (.reg [⟨some 15, none, .fa 17 (.t 2)⟩, ⟨some 16, none, .ld false 1 (.t 15)⟩, ⟨some 17, none, .fa 17 (.t 3)⟩, ⟨some 18, none, .ld false 1 (.t 17)⟩, ⟨some 19, none, .bin .lss (.t 16) (.t 18)⟩, ⟨some 4, none, .mv (.t 19)⟩])
  .ret)))⟩
noncomputable def c_iniwrite_short : AFn := ⟨1, 9, [.tmp 2],
  (.seq (.reg [⟨some 2, none, .mv (.k (.b false))⟩])
  (.seq (.reg [⟨some 3, none, .mv (.t 0)⟩, ⟨some 4, none, .bin .geq (.t 3) (.k (.i .i64 0))⟩, ⟨some 5, none, .mv (.t 4)⟩, ⟨some 6, some (5, true), .mv (.t 0)⟩, ⟨some 7, some (5, true), .bin .leq (.t 6) (.k (.i .i64 65535))⟩, ⟨some 8, none, .pick (.t 5) (.t 7) (.k (.b false))⟩, ⟨some 2, none, .mv (.t 8)⟩])
  .ret))⟩
noncomputable def c_slices_ContainsFunc_api_IniPeer : AFn := ⟨2, 9, [.tmp 4],
  (.seq (.reg [⟨some 4, none, .mv (.k (.b false))⟩])
  (.seq (.reg [⟨some 5, none, .mv (.t 0)⟩, ⟨some 6, none, .mv (.t 1)⟩, ⟨some 7, none, .call fn_slices_IndexFunc_api_IniPeer [(.t 5), (.t 6)]⟩, ⟨some 8, none, .bin .geq (.t 7) (.k (.i .i64 0))⟩, ⟨some 4, none, .mv (.t 8)⟩])
  .ret))⟩
noncomputable def c_iniwrite_wrong : AFn := ⟨1, 33, [.tmp 2],
  (.seq (.reg [⟨some 1, none, .box 84 (.t 0)⟩, ⟨some 2, none, .mv (.k (.b false))⟩])
  (.seq (.seq (.reg [⟨some 3, none, .fa 0 (.t 1)⟩, ⟨some 4, none, .ld true 32 (.t 3)⟩, ⟨some 5, none, .call fn_keys_Zero [(.t 4)]⟩, ⟨some 6, none, .mv (.t 5)⟩, ⟨some 7, some (6, false), .fa 82 (.t 1)⟩, ⟨some 8, some (6, false), .ld false 1 (.t 7)⟩, ⟨some 9, some (6, false), .call fn_iniwrite_short [(.t 8)]⟩, ⟨some 10, some (6, false), .un .not (.t 9)⟩, ⟨some 11, none, .pick (.t 6) (.k (.b true)) (.t 10)⟩, ⟨some 12, none, .mv (.t 11)⟩, ⟨some 13, some (12, false), .fa 83 (.t 1)⟩, ⟨some 14, some (12, false), .ld false 1 (.t 13)⟩, ⟨some 15, some (12, false), .len (.t 14)⟩, ⟨some 16, some (12, false), .bin .gtr (.t 15) (.k (.i .i64 64))⟩, ⟨some 17, none, .pick (.t 12) (.k (.b true)) (.t 16)⟩])
  (.cond (.t 17)
   (.seq (.reg [⟨some 2, none, .mv (.k (.b true))⟩])
   .ret)
   .skip))
  (.seq (.reg [⟨some 18, none, .fa 64 (.t 1)⟩, ⟨some 19, none, .ld true 18 (.t 18)⟩, ⟨some 20, none, .call fn_hostport_None [(.t 19)]⟩, ⟨some 21, none, .un .not (.t 20)⟩, ⟨some 22, none, .mv (.t 21)⟩, ⟨some 23, some (22, true), .fa 64 (.t 1)⟩, ⟨some 24, some (22, true), .ld true 18 (.t 23)⟩, ⟨some 25, some (22, true), .call fn_hostport_Right [(.t 24)]⟩, ⟨some 26, some (22, true), .un .not (.t 25)⟩, ⟨some 27, none, .pick (.t 22) (.t 26) (.k (.b false))⟩, ⟨some 28, none, .mv (.t 27)⟩, ⟨some 29, some (28, false), .fa 83 (.t 1)⟩, ⟨some 30, some (28, false), .ld false 1 (.t 29)⟩, ⟨some 31, some (28, false), .call fn_slices_ContainsFunc_api_Prefix [(.t 30), (.f fn_iniwrite_wrong_1)]⟩, ⟨some 32, none, .pick (.t 28) (.k (.b true)) (.t 31)⟩, ⟨some 2, none, .mv (.t 32)⟩])
  .ret)))⟩
noncomputable def c_compile_each_api_IniPeer_api_PeerChange_l0 : AC :=
  (.seq (.reg [⟨some 11, none, .bin .lss (.t 10) (.t 9)⟩])
  (.seq (.cond (.t 11)
   .skip
   (.exit 0))
  (.seq (.blk 1
   (.seq (.reg [⟨some 12, none, .ias 84 (.t 8) (.t 10)⟩, ⟨some 13, none, .ld true 84 (.t 12)⟩, ⟨some 7, none, .alloc z_api_IniPeer⟩, ⟨none, none, .st 84 (.t 7) (.t 13)⟩])
   (.reg [⟨some 14, none, .mv (.t 5)⟩, ⟨some 15, none, .mv (.t 1)⟩, ⟨some 16, none, .ld true 84 (.t 7)⟩, ⟨some 17, none, .callv (.t 15) [(.t 16)]⟩, ⟨some 18, none, .bll 90 (List.replicate 1 z_api_PeerChange) [(0, (.t 17))]⟩, ⟨some 19, none, .app 90 152 (.t 14) (.t 18)⟩, ⟨some 5, none, .mv (.t 19)⟩])))
  (.reg [⟨some 20, none, .bin .add (.t 10) (.k (.i .i64 1))⟩, ⟨some 10, none, .mv (.t 20)⟩]))))
noncomputable def c_compile_each_api_IniPeer_api_PeerChange : AFn := ⟨2, 22, [.tmp 4],
  (.seq (.reg [⟨some 4, none, .mv (.k (.nils))⟩])
  (.seq (.reg [⟨some 5, none, .mv (.k (.nils))⟩])
  (.seq (.seq (.reg [⟨some 8, none, .mv (.t 0)⟩, ⟨some 9, none, .len (.t 8)⟩, ⟨some 10, none, .mv (.k (.i .i64 0))⟩])
  (.blk 0
   (.loop [1, 5, 8, 9, 10] c_compile_each_api_IniPeer_api_PeerChange_l0)))
  (.seq (.reg [⟨some 21, none, .mv (.t 5)⟩, ⟨some 4, none, .mv (.t 21)⟩])
  .ret))))⟩
noncomputable def c_compile_Request_1 : AFn := ⟨1, 26, [.cell true 90 2],
  (.seq (.reg [⟨some 1, none, .box 84 (.t 0)⟩, ⟨some 2, none, .alloc z_api_PeerChange⟩])
  (.seq (.reg [⟨some 4, none, .fa 0 (.t 1)⟩, ⟨some 5, none, .ld true 32 (.t 4)⟩, ⟨some 6, none, .bld z_api_PeerChange [(0, 32, (.t 5)), (34, 1, (.k (.b true))), (86, 1, (.k (.b true))), (88, 1, (.k (.b true)))]⟩, ⟨some 3, none, .alloc z_api_PeerChange⟩, ⟨none, none, .st 90 (.t 3) (.t 6)⟩])
  (.seq (.regd [⟨some 7, none, .fa 32 (.t 1)⟩, ⟨some 8, none, .ld true 32 (.t 7)⟩, ⟨some 9, none, .fa 82 (.t 1)⟩, ⟨some 10, none, .ld false 1 (.t 9)⟩, ⟨some 11, none, .fa 83 (.t 1)⟩, ⟨some 12, none, .ld false 1 (.t 11)⟩, ⟨some 13, none, .call fn_slices_Clone_api_Prefix [(.t 12)]⟩, ⟨some 14, none, .fa 35 (.t 3)⟩, ⟨none, none, .st 32 (.t 14) (.t 8)⟩, ⟨some 15, none, .fa 87 (.t 3)⟩, ⟨none, none, .st 1 (.t 15) (.t 10)⟩, ⟨some 16, none, .fa 89 (.t 3)⟩, ⟨none, none, .st 1 (.t 16) (.t 13)⟩] [some (0, 0), some (0, 0), some (0, 1), some (0, 1), some (0, 0), some (0, 0), some (0, 0), some (0, 0), none, some (1, 1), none, some (2, 2), none])
  (.seq (.regd [⟨some 17, none, .fa 64 (.t 1)⟩, ⟨some 18, none, .ld true 18 (.t 17)⟩, ⟨some 19, none, .call fn_hostport_None [(.t 18)]⟩, ⟨some 20, none, .un .not (.t 19)⟩, ⟨some 21, none, .fa 64 (.t 1)⟩, ⟨some 22, none, .ld true 18 (.t 21)⟩, ⟨some 23, none, .fa 67 (.t 3)⟩, ⟨none, none, .st 1 (.t 23) (.t 20)⟩, ⟨some 24, none, .fa 68 (.t 3)⟩, ⟨none, none, .st 18 (.t 24) (.t 22)⟩] [some (0, 0), some (0, 0), some (0, 0), some (0, 0), some (0, 1), some (0, 1), some (0, 0), none, some (1, 1), none])
  (.seq (.reg [⟨some 25, none, .ld true 90 (.t 3)⟩, ⟨none, none, .st 90 (.t 2) (.t 25)⟩])
  .ret)))))⟩
noncomputable def c_hostport_None : AFn := ⟨1, 6, [.tmp 2],
  (.seq (.reg [⟨some 1, none, .box 18 (.t 0)⟩, ⟨some 2, none, .mv (.k (.b false))⟩])
  (.seq (.reg [⟨some 3, none, .ld true 18 (.t 1)⟩, ⟨some 4, none, .bld z_api_Endpoint []⟩, ⟨some 5, none, .eq false (.agg (kk [(1, .i .i64), (16, .i .u8), (1, .i .i64)])) (.t 3) (.t 4)⟩, ⟨some 2, none, .mv (.t 5)⟩])
  .ret))⟩
noncomputable def c_r32_SamePeer : AFn := ⟨2, 80, [.tmp 4],
  (.seq (.reg [⟨some 2, none, .box 90 (.t 0)⟩, ⟨some 3, none, .box 90 (.t 1)⟩, ⟨some 4, none, .mv (.k (.b false))⟩])
  (.seq (.reg [⟨some 5, none, .fa 0 (.t 2)⟩, ⟨some 6, none, .ld true 32 (.t 5)⟩, ⟨some 7, none, .fa 0 (.t 3)⟩, ⟨some 8, none, .ld true 32 (.t 7)⟩, ⟨some 9, none, .eq false (.agg (kk [(32, .i .u8)])) (.t 6) (.t 8)⟩, ⟨some 10, none, .mv (.t 9)⟩, ⟨some 11, some (10, true), .fa 32 (.t 2)⟩, ⟨some 12, some (10, true), .ld false 1 (.t 11)⟩, ⟨some 13, some (10, true), .fa 32 (.t 3)⟩, ⟨some 14, some (10, true), .ld false 1 (.t 13)⟩, ⟨some 15, some (10, true), .eq false (.one (.b)) (.t 12) (.t 14)⟩, ⟨some 16, none, .pick (.t 10) (.t 15) (.k (.b false))⟩, ⟨some 17, none, .mv (.t 16)⟩, ⟨some 18, some (17, true), .fa 33 (.t 2)⟩, ⟨some 19, some (17, true), .ld false 1 (.t 18)⟩, ⟨some 20, some (17, true), .fa 33 (.t 3)⟩, ⟨some 21, some (17, true), .ld false 1 (.t 20)⟩, ⟨some 22, some (17, true), .eq false (.one (.b)) (.t 19) (.t 21)⟩, ⟨some 23, none, .pick (.t 17) (.t 22) (.k (.b false))⟩, ⟨some 24, none, .mv (.t 23)⟩, ⟨some 25, some (24, true), .fa 34 (.t 2)⟩, ⟨some 26, some (24, true), .ld false 1 (.t 25)⟩, ⟨some 27, some (24, true), .fa 34 (.t 3)⟩, ⟨some 28, some (24, true), .ld false 1 (.t 27)⟩, ⟨some 29, some (24, true), .eq false (.one (.b)) (.t 26) (.t 28)⟩, ⟨some 30, none, .pick (.t 24) (.t 29) (.k (.b false))⟩, ⟨some 31, none, .mv (.t 30)⟩, ⟨some 32, some (31, true), .fa 35 (.t 2)⟩, ⟨some 33, some (31, true), .ld true 32 (.t 32)⟩, ⟨some 34, some (31, true), .fa 35 (.t 3)⟩, ⟨some 35, some (31, true), .ld true 32 (.t 34)⟩, ⟨some 36, some (31, true), .eq false (.agg (kk [(32, .i .u8)])) (.t 33) (.t 35)⟩, ⟨some 37, none, .pick (.t 31) (.t 36) (.k (.b false))⟩, ⟨some 38, none, .mv (.t 37)⟩, ⟨some 39, some (38, true), .fa 67 (.t 2)⟩, ⟨some 40, some (38, true), .ld false 1 (.t 39)⟩, ⟨some 41, some (38, true), .fa 67 (.t 3)⟩, ⟨some 42, some (38, true), .ld false 1 (.t 41)⟩, ⟨some 43, some (38, true), .eq false (.one (.b)) (.t 40) (.t 42)⟩, ⟨some 44, none, .pick (.t 38) (.t 43) (.k (.b false))⟩, ⟨some 45, none, .mv (.t 44)⟩, ⟨some 46, some (45, true), .fa 68 (.t 2)⟩, ⟨some 47, some (45, true), .ld true 18 (.t 46)⟩, ⟨some 48, some (45, true), .fa 68 (.t 3)⟩, ⟨some 49, some (45, true), .ld true 18 (.t 48)⟩, ⟨some 50, some (45, true), .eq false (.agg (kk [(1, .i .i64), (16, .i .u8), (1, .i .i64)])) (.t 47) (.t 49)⟩, ⟨some 51, none, .pick (.t 45) (.t 50) (.k (.b false))⟩, ⟨some 52, none, .mv (.t 51)⟩, ⟨some 53, some (52, true), .fa 86 (.t 2)⟩, ⟨some 54, some (52, true), .ld false 1 (.t 53)⟩, ⟨some 55, some (52, true), .fa 86 (.t 3)⟩, ⟨some 56, some (52, true), .ld false 1 (.t 55)⟩, ⟨some 57, some (52, true), .eq false (.one (.b)) (.t 54) (.t 56)⟩, ⟨some 58, none, .pick (.t 52) (.t 57) (.k (.b false))⟩, ⟨some 59, none, .mv (.t 58)⟩, ⟨some 60, some (59, true), .fa 87 (.t 2)⟩, ⟨some 61, some (59, true), .ld false 1 (.t 60)⟩, ⟨some 62, some (59, true), .fa 87 (.t 3)⟩, ⟨some 63, some (59, true), .ld false 1 (.t 62)⟩, ⟨some 64, some (59, true), .bin .eql (.t 61) (.t 63)⟩, ⟨some 65, none, .pick (.t 59) (.t 64) (.k (.b false))⟩, ⟨some 66, none, .mv (.t 65)⟩, ⟨some 67, some (66, true), .fa 88 (.t 2)⟩, ⟨some 68, some (66, true), .ld false 1 (.t 67)⟩, ⟨some 69, some (66, true), .fa 88 (.t 3)⟩, ⟨some 70, some (66, true), .ld false 1 (.t 69)⟩, ⟨some 71, some (66, true), .eq false (.one (.b)) (.t 68) (.t 70)⟩, ⟨some 72, none, .pick (.t 66) (.t 71) (.k (.b false))⟩, ⟨some 73, none, .mv (.t 72)⟩, ⟨some 74, some (73, true), .fa 89 (.t 2)⟩, ⟨some 75, some (73, true), .ld false 1 (.t 74)⟩, ⟨some 76, some (73, true), .fa 89 (.t 3)⟩, ⟨some 77, some (73, true), .ld false 1 (.t 76)⟩, ⟨some 78, some (73, true), .call fn_r11_Same [(.t 75), (.t 77)]⟩, ⟨some 79, none, .pick (.t 73) (.t 78) (.k (.b false))⟩, ⟨some 4, none, .mv (.t 79)⟩])
  .ret))⟩
noncomputable def c_r44_from : AFn := ⟨1, 9, [.tmp 2],
  (.seq (.reg [⟨some 2, none, .mv (.k (.b false))⟩])
  (.seq (.reg [⟨some 3, none, .mv (.t 0)⟩, ⟨some 4, none, .bin .geq (.t 3) (.k (.i .i64 0))⟩, ⟨some 5, none, .mv (.t 4)⟩, ⟨some 6, some (5, true), .mv (.t 0)⟩, ⟨some 7, some (5, true), .bin .leq (.t 6) (.k (.i .i64 65535))⟩, ⟨some 8, none, .pick (.t 5) (.t 7) (.k (.b false))⟩, ⟨some 2, none, .mv (.t 8)⟩])
  .ret))⟩
noncomputable def c_change_only_api_Key : AFn := ⟨2, 12, [.tmp 4],
  (.seq (.reg [⟨some 3, none, .box 32 (.t 1)⟩, ⟨some 4, none, .mv (.k (.b false))⟩])
  (.seq (.reg [⟨some 5, none, .alloc z_api_Key⟩])
  (.seq (.reg [⟨some 6, none, .mv (.t 0)⟩, ⟨some 7, none, .mv (.t 6)⟩, ⟨some 8, some (7, false), .ld true 32 (.t 3)⟩, ⟨some 9, some (7, false), .ld true 32 (.t 5)⟩, ⟨some 10, some (7, false), .eq false (.agg (kk [(32, .i .u8)])) (.t 8) (.t 9)⟩, ⟨some 11, none, .pick (.t 7) (.k (.b true)) (.t 10)⟩, ⟨some 4, none, .mv (.t 11)⟩])
  .ret)))⟩
noncomputable def c_change_only_int : AFn := ⟨2, 12, [.tmp 4],
  (.seq (.reg [⟨some 4, none, .mv (.k (.b false))⟩])
  (.seq (.reg [⟨some 5, none, .mv (.k (.i .i64 0))⟩])
  (.seq (.reg [⟨some 6, none, .mv (.t 0)⟩, ⟨some 7, none, .mv (.t 6)⟩, ⟨some 8, some (7, false), .mv (.t 1)⟩, ⟨some 9, some (7, false), .mv (.t 5)⟩, ⟨some 10, some (7, false), .bin .eql (.t 8) (.t 9)⟩, ⟨some 11, none, .pick (.t 7) (.k (.b true)) (.t 10)⟩, ⟨some 4, none, .mv (.t 11)⟩])
  .ret)))⟩
noncomputable def c_change_only_uint32 : AFn := ⟨2, 12, [.tmp 4],
  (.seq (.reg [⟨some 4, none, .mv (.k (.b false))⟩])
  (.seq (.reg [⟨some 5, none, .mv (.k (.i .u32 0))⟩])
  (.seq (.reg [⟨some 6, none, .mv (.t 0)⟩, ⟨some 7, none, .mv (.t 6)⟩, ⟨some 8, some (7, false), .mv (.t 1)⟩, ⟨some 9, some (7, false), .mv (.t 5)⟩, ⟨some 10, some (7, false), .bin .eql (.t 8) (.t 9)⟩, ⟨some 11, none, .pick (.t 7) (.k (.b true)) (.t 10)⟩, ⟨some 4, none, .mv (.t 11)⟩])
  .ret)))⟩
noncomputable def c_change_short : AFn := ⟨1, 9, [.tmp 2],
  (.seq (.reg [⟨some 2, none, .mv (.k (.b false))⟩])
  (.seq (.reg [⟨some 3, none, .mv (.t 0)⟩, ⟨some 4, none, .bin .geq (.t 3) (.k (.i .i64 0))⟩, ⟨some 5, none, .mv (.t 4)⟩, ⟨some 6, some (5, true), .mv (.t 0)⟩, ⟨some 7, some (5, true), .bin .leq (.t 6) (.k (.i .i64 65535))⟩, ⟨some 8, none, .pick (.t 5) (.t 7) (.k (.b false))⟩, ⟨some 2, none, .mv (.t 8)⟩])
  .ret))⟩
noncomputable def c_slices_ContainsFunc_api_PeerChange : AFn := ⟨2, 9, [.tmp 4],
  (.seq (.reg [⟨some 4, none, .mv (.k (.b false))⟩])
  (.seq (.reg [⟨some 5, none, .mv (.t 0)⟩, ⟨some 6, none, .mv (.t 1)⟩, ⟨some 7, none, .call fn_slices_IndexFunc_api_PeerChange [(.t 5), (.t 6)]⟩, ⟨some 8, none, .bin .geq (.t 7) (.k (.i .i64 0))⟩, ⟨some 4, none, .mv (.t 8)⟩])
  .ret))⟩
noncomputable def c_change_Right_1 : AFn := ⟨1, 6, [.tmp 2],
  (.seq (.reg [⟨some 1, none, .box 90 (.t 0)⟩, ⟨some 2, none, .mv (.k (.b false))⟩])
  (.seq (.reg [⟨some 3, none, .ld true 90 (.t 1)⟩, ⟨some 4, none, .call fn_change_RightPeer [(.t 3)]⟩, ⟨some 5, none, .un .not (.t 4)⟩, ⟨some 2, none, .mv (.t 5)⟩])
  .ret))⟩
noncomputable def c_change_RightPeer : AFn := ⟨1, 56, [.tmp 2],
  (.seq (.reg [⟨some 1, none, .box 90 (.t 0)⟩, ⟨some 2, none, .mv (.k (.b false))⟩])
  (.seq (.blk 0
   (.seq (.reg [⟨some 4, none, .fa 0 (.t 1)⟩, ⟨some 5, none, .ld true 32 (.t 4)⟩, ⟨some 6, none, .bld z_api_Key []⟩, ⟨some 7, none, .eq false (.agg (kk [(32, .i .u8)])) (.t 5) (.t 6)⟩, ⟨some 8, none, .mv (.t 7)⟩, ⟨some 9, some (8, false), .fa 34 (.t 1)⟩, ⟨some 10, some (8, false), .ld false 1 (.t 9)⟩, ⟨some 11, some (8, false), .fa 35 (.t 1)⟩, ⟨some 12, some (8, false), .ld true 32 (.t 11)⟩, ⟨some 13, some (8, false), .call fn_change_only_api_Key [(.t 10), (.t 12)]⟩, ⟨some 14, some (8, false), .un .not (.t 13)⟩, ⟨some 15, none, .pick (.t 8) (.k (.b true)) (.t 14)⟩, ⟨some 3, none, .mv (.t 15)⟩])
   (.cond (.t 3)
    (.seq (.reg [⟨some 2, none, .mv (.k (.b false))⟩])
    .ret)
    (.seq (.reg [⟨some 17, none, .fa 67 (.t 1)⟩, ⟨some 18, none, .ld false 1 (.t 17)⟩, ⟨some 19, none, .fa 68 (.t 1)⟩, ⟨some 20, none, .ld true 18 (.t 19)⟩, ⟨some 21, none, .call fn_change_only_api_Endpoint [(.t 18), (.t 20)]⟩, ⟨some 22, none, .un .not (.t 21)⟩, ⟨some 23, none, .mv (.t 22)⟩, ⟨some 24, some (23, false), .fa 67 (.t 1)⟩, ⟨some 25, some (23, false), .ld false 1 (.t 24)⟩, ⟨some 26, some (23, false), .mv (.t 25)⟩, ⟨some 27, some (26, true), .fa 68 (.t 1)⟩, ⟨some 28, some (26, true), .ld true 18 (.t 27)⟩, ⟨some 29, some (26, true), .call fn_hostport_Right [(.t 28)]⟩, ⟨some 30, some (26, true), .un .not (.t 29)⟩, ⟨some 31, some (23, false), .pick (.t 26) (.t 30) (.k (.b false))⟩, ⟨some 32, none, .pick (.t 23) (.k (.b true)) (.t 31)⟩, ⟨some 16, none, .mv (.t 32)⟩])
    (.cond (.t 16)
     (.seq (.reg [⟨some 2, none, .mv (.k (.b false))⟩])
     .ret)
     (.seq (.reg [⟨some 34, none, .fa 87 (.t 1)⟩, ⟨some 35, none, .ld false 1 (.t 34)⟩, ⟨some 36, none, .call fn_change_short [(.t 35)]⟩, ⟨some 37, none, .un .not (.t 36)⟩, ⟨some 38, none, .mv (.t 37)⟩, ⟨some 39, some (38, false), .fa 86 (.t 1)⟩, ⟨some 40, some (38, false), .ld false 1 (.t 39)⟩, ⟨some 41, some (38, false), .fa 87 (.t 1)⟩, ⟨some 42, some (38, false), .ld false 1 (.t 41)⟩, ⟨some 43, some (38, false), .call fn_change_only_int [(.t 40), (.t 42)]⟩, ⟨some 44, some (38, false), .un .not (.t 43)⟩, ⟨some 45, none, .pick (.t 38) (.k (.b true)) (.t 44)⟩, ⟨some 33, none, .mv (.t 45)⟩])
     (.cond (.t 33)
      (.seq (.reg [⟨some 2, none, .mv (.k (.b false))⟩])
      .ret)
      .skip)))))))
  (.seq (.reg [⟨some 46, none, .fa 89 (.t 1)⟩, ⟨some 47, none, .ld false 1 (.t 46)⟩, ⟨some 48, none, .len (.t 47)⟩, ⟨some 49, none, .bin .leq (.t 48) (.k (.i .i64 64))⟩, ⟨some 50, none, .mv (.t 49)⟩, ⟨some 51, some (50, true), .fa 89 (.t 1)⟩, ⟨some 52, some (50, true), .ld false 1 (.t 51)⟩, ⟨some 53, some (50, true), .call fn_slices_ContainsFunc_api_Prefix [(.t 52), (.f fn_change_RightPeer_1)]⟩, ⟨some 54, some (50, true), .un .not (.t 53)⟩, ⟨some 55, none, .pick (.t 50) (.t 54) (.k (.b false))⟩, ⟨some 2, none, .mv (.t 55)⟩])
  .ret)))⟩
noncomputable def c_r10_Right_l0 : AC :=
  (.seq (.seq (.reg [⟨some 7, none, .mv (.t 3)⟩, ⟨some 8, none, .bin .lss (.t 7) (.k (.i .i64 16))⟩])
  (.cond (.t 8)
   .skip
   (.exit 0)))
  (.seq (.blk 1
   (.seq (.reg [⟨some 11, none, .mv (.t 3)⟩, ⟨some 12, none, .fa 1 (.t 1)⟩, ⟨some 13, none, .iaa 16 1 (.t 12) (.t 11)⟩, ⟨some 14, none, .ld false 1 (.t 13)⟩, ⟨some 15, none, .bin .neq (.t 14) (.k (.i .u8 0))⟩])
   (.cond (.t 15)
    (.seq (.reg [⟨some 2, none, .mv (.k (.b false))⟩])
    .ret)
    .skip)))
  (.reg [⟨some 9, none, .mv (.t 3)⟩, ⟨some 10, none, .bin .add (.t 9) (.k (.i .i64 1))⟩, ⟨some 3, none, .mv (.t 10)⟩])))
noncomputable def c_r10_Right : AFn := ⟨1, 19, [.tmp 2],
  (.seq (.reg [⟨some 1, none, .box 17 (.t 0)⟩, ⟨some 2, none, .mv (.k (.b false))⟩])
  (.seq (.seq (.reg [⟨some 4, none, .fa 0 (.t 1)⟩, ⟨some 5, none, .ld false 1 (.t 4)⟩, ⟨some 6, none, .bin .eql (.t 5) (.k (.i .i64 6))⟩])
  (.cond (.t 6)
   (.seq (.reg [⟨some 2, none, .mv (.k (.b true))⟩])
   .ret)
   .skip))
  (.seq (.seq (.reg [⟨some 3, none, .mv (.k (.i .i64 4))⟩])
  (.blk 0
   (.loop [1, 3] c_r10_Right_l0)))
  (.seq (.reg [⟨some 16, none, .fa 0 (.t 1)⟩, ⟨some 17, none, .ld false 1 (.t 16)⟩, ⟨some 18, none, .bin .eql (.t 17) (.k (.i .i64 4))⟩, ⟨some 2, none, .mv (.t 18)⟩])
  .ret))))⟩
noncomputable def c_r10_Width : AFn := ⟨1, 9, [.tmp 2],
  (.seq (.reg [⟨some 1, none, .box 17 (.t 0)⟩, ⟨some 2, none, .mv (.k (.i .i64 0))⟩])
  (.seq (.seq (.reg [⟨some 3, none, .ld true 17 (.t 1)⟩, ⟨some 4, none, .call fn_r10_Right [(.t 3)]⟩, ⟨some 5, none, .un .not (.t 4)⟩])
  (.cond (.t 5)
   (.seq (.reg [⟨some 2, none, .mv (.k (.i .i64 0))⟩])
   .ret)
   .skip))
  (.seq (.seq (.reg [⟨some 6, none, .fa 0 (.t 1)⟩, ⟨some 7, none, .ld false 1 (.t 6)⟩, ⟨some 8, none, .bin .eql (.t 7) (.k (.i .i64 4))⟩])
  (.cond (.t 8)
   (.seq (.reg [⟨some 2, none, .mv (.k (.i .i64 32))⟩])
   .ret)
   .skip))
  (.seq (.reg [⟨some 2, none, .mv (.k (.i .i64 128))⟩])
  .ret))))⟩
noncomputable def c_r10_Mask_l0 : AC :=
  (.seq (.seq (.reg [⟨some 33, none, .mv (.t 9)⟩, ⟨some 34, none, .mv (.t 7)⟩, ⟨some 35, none, .bin .rem (.t 34) (.k (.i .i64 8))⟩, ⟨some 36, none, .bin .lss (.t 33) (.t 35)⟩])
  (.cond (.t 36)
   .skip
   (.exit 2)))
  (.seq (.blk 3
   (.reg [⟨some 39, none, .mv (.t 8)⟩, ⟨some 40, none, .bin .quo (.t 39) (.k (.i .i64 2))⟩, ⟨some 8, none, .mv (.t 40)⟩]))
  (.reg [⟨some 37, none, .mv (.t 9)⟩, ⟨some 38, none, .bin .add (.t 37) (.k (.i .i64 1))⟩, ⟨some 9, none, .mv (.t 38)⟩])))
noncomputable def c_r10_Mask_l1 : AC :=
  (.seq (.seq (.reg [⟨some 19, none, .mv (.t 7)⟩, ⟨some 20, none, .mv (.t 6)⟩, ⟨some 21, none, .bin .lss (.t 19) (.t 20)⟩, ⟨some 22, none, .mv (.t 21)⟩, ⟨some 23, some (22, true), .mv (.t 7)⟩, ⟨some 24, some (22, true), .mv (.t 1)⟩, ⟨some 25, some (22, true), .bin .lss (.t 23) (.t 24)⟩, ⟨some 26, none, .pick (.t 22) (.t 25) (.k (.b false))⟩])
  (.cond (.t 26)
   .skip
   (.exit 0)))
  (.seq (.blk 1
   (.seq (.reg [⟨some 29, none, .ld true 17 (.t 2)⟩, ⟨some 30, none, .mv (.t 7)⟩, ⟨some 31, none, .call fn_r10_digit [(.t 29), (.t 30)]⟩, ⟨some 32, none, .bin .eql (.t 31) (.k (.i .i64 1))⟩])
   (.cond (.t 32)
    (.seq (.reg [⟨some 8, none, .mv (.k (.i .i64 128))⟩])
    (.seq (.seq (.reg [⟨some 9, none, .mv (.k (.i .i64 0))⟩])
    (.blk 2
     (.loop [1, 2, 4, 5, 6, 7, 8, 9] c_r10_Mask_l0)))
    (.reg [⟨some 41, none, .mv (.t 7)⟩, ⟨some 42, none, .bin .quo (.t 41) (.k (.i .i64 8))⟩, ⟨some 43, none, .mv (.t 7)⟩, ⟨some 44, none, .bin .quo (.t 43) (.k (.i .i64 8))⟩, ⟨some 45, none, .fa 1 (.t 5)⟩, ⟨some 46, none, .iaa 16 1 (.t 45) (.t 44)⟩, ⟨some 47, none, .ld false 1 (.t 46)⟩, ⟨some 48, none, .mv (.t 8)⟩, ⟨some 49, none, .cvi .u8 (.t 48)⟩, ⟨some 50, none, .bin .add (.t 47) (.t 49)⟩, ⟨some 51, none, .fa 1 (.t 5)⟩, ⟨some 52, none, .iaa 16 1 (.t 51) (.t 42)⟩, ⟨none, none, .st 1 (.t 52) (.t 50)⟩])))
    .skip)))
  (.reg [⟨some 27, none, .mv (.t 7)⟩, ⟨some 28, none, .bin .add (.t 27) (.k (.i .i64 1))⟩, ⟨some 7, none, .mv (.t 28)⟩])))
noncomputable def c_r10_Mask : AFn := ⟨2, 54, [.cell true 17 4],
  (.seq (.reg [⟨some 2, none, .box 17 (.t 0)⟩, ⟨some 4, none, .alloc z_api_Addr⟩])
  (.seq (.seq (.reg [⟨some 10, none, .ld true 17 (.t 2)⟩, ⟨some 11, none, .call fn_r10_Right [(.t 10)]⟩, ⟨some 12, none, .un .not (.t 11)⟩])
  (.cond (.t 12)
   (.seq (.reg [⟨some 13, none, .bld z_api_Addr []⟩, ⟨none, none, .st 17 (.t 4) (.t 13)⟩])
   .ret)
   .skip))
  (.seq (.reg [⟨some 14, none, .fa 0 (.t 2)⟩, ⟨some 15, none, .ld false 1 (.t 14)⟩, ⟨some 16, none, .bld z_api_Addr [(0, 1, (.t 15))]⟩, ⟨some 5, none, .alloc z_api_Addr⟩, ⟨none, none, .st 17 (.t 5) (.t 16)⟩])
  (.seq (.reg [⟨some 17, none, .ld true 17 (.t 2)⟩, ⟨some 18, none, .call fn_r10_Width [(.t 17)]⟩, ⟨some 6, none, .mv (.t 18)⟩])
  (.seq (.seq (.reg [⟨some 7, none, .mv (.k (.i .i64 0))⟩])
  (.blk 0
   (.loop [1, 2, 4, 5, 6, 7] c_r10_Mask_l1)))
  (.seq (.reg [⟨some 53, none, .ld true 17 (.t 5)⟩, ⟨none, none, .st 17 (.t 4) (.t 53)⟩])
  .ret))))))⟩
noncomputable def c_r10_Less_l0 : AC :=
  (.seq (.seq (.reg [⟨some 16, none, .mv (.t 5)⟩, ⟨some 17, none, .bin .lss (.t 16) (.k (.i .i64 16))⟩])
  (.cond (.t 17)
   .skip
   (.exit 0)))
  (.seq (.blk 1
   (.seq (.regq [⟨some 20, none, .mv (.t 5)⟩, ⟨some 21, none, .fa 1 (.t 2)⟩, ⟨some 22, none, .iaa 16 1 (.t 21) (.t 20)⟩, ⟨some 23, none, .ld false 1 (.t 22)⟩, ⟨some 24, none, .mv (.t 5)⟩, ⟨some 25, none, .fa 1 (.t 3)⟩, ⟨some 26, none, .iaa 16 1 (.t 25) (.t 24)⟩, ⟨some 27, none, .ld false 1 (.t 26)⟩, ⟨some 28, none, .bin .neq (.t 23) (.t 27)⟩])
   (.cond (.t 28)
    (.seq (.regq [⟨some 29, none, .mv (.t 5)⟩, ⟨some 30, none, .fa 1 (.t 2)⟩, ⟨some 31, none, .iaa 16 1 (.t 30) (.t 29)⟩, ⟨some 32, none, .ld false 1 (.t 31)⟩, ⟨some 33, none, .mv (.t 5)⟩, ⟨some 34, none, .fa 1 (.t 3)⟩, ⟨some 35, none, .iaa 16 1 (.t 34) (.t 33)⟩, ⟨some 36, none, .ld false 1 (.t 35)⟩, ⟨some 37, none, .bin .lss (.t 32) (.t 36)⟩, ⟨some 4, none, .mv (.t 37)⟩])
    .ret)
    .skip)))
  (.reg [⟨some 18, none, .mv (.t 5)⟩, ⟨some 19, none, .bin .add (.t 18) (.k (.i .i64 1))⟩, ⟨some 5, none, .mv (.t 19)⟩])))
noncomputable def c_r10_Less : AFn := ⟨2, 38, [.tmp 4],
  (.seq (.reg [⟨some 2, none, .box 17 (.t 0)⟩, ⟨some 3, none, .box 17 (.t 1)⟩, ⟨some 4, none, .mv (.k (.b false))⟩])
  (.seq (.seq (.reg [⟨some 6, none, .fa 0 (.t 2)⟩, ⟨some 7, none, .ld false 1 (.t 6)⟩, ⟨some 8, none, .fa 0 (.t 3)⟩, ⟨some 9, none, .ld false 1 (.t 8)⟩, ⟨some 10, none, .bin .neq (.t 7) (.t 9)⟩])
  (.cond (.t 10)
   (.seq (.reg [⟨some 11, none, .fa 0 (.t 2)⟩, ⟨some 12, none, .ld false 1 (.t 11)⟩, ⟨some 13, none, .fa 0 (.t 3)⟩, ⟨some 14, none, .ld false 1 (.t 13)⟩, ⟨some 15, none, .bin .lss (.t 12) (.t 14)⟩, ⟨some 4, none, .mv (.t 15)⟩])
   .ret)
   .skip))
  (.seq (.seq (.reg [⟨some 5, none, .mv (.k (.i .i64 0))⟩])
  (.blk 0
   (.loop [2, 3, 5] c_r10_Less_l0)))
  (.seq (.reg [⟨some 4, none, .mv (.k (.b false))⟩])
  .ret))))⟩
noncomputable def c_slices_IndexFunc_api_IniPeer_l0 : AC :=
  (.seq (.reg [⟨some 9, none, .bin .lss (.t 8) (.t 7)⟩])
  (.seq (.cond (.t 9)
   .skip
   (.exit 0))
  (.seq (.blk 1
   (.seq (.reg [⟨some 10, none, .mv (.t 8)⟩, ⟨some 5, none, .mv (.t 10)⟩])
   (.seq (.reg [⟨some 11, none, .mv (.t 1)⟩, ⟨some 12, none, .mv (.t 0)⟩, ⟨some 13, none, .mv (.t 5)⟩, ⟨some 14, none, .ias 84 (.t 12) (.t 13)⟩, ⟨some 15, none, .ld true 84 (.t 14)⟩, ⟨some 16, none, .callv (.t 11) [(.t 15)]⟩])
   (.cond (.t 16)
    (.seq (.reg [⟨some 17, none, .mv (.t 5)⟩, ⟨some 4, none, .mv (.t 17)⟩])
    .ret)
    .skip))))
  (.reg [⟨some 18, none, .bin .add (.t 8) (.k (.i .i64 1))⟩, ⟨some 8, none, .mv (.t 18)⟩]))))
noncomputable def c_slices_IndexFunc_api_IniPeer : AFn := ⟨2, 19, [.tmp 4],
  (.seq (.reg [⟨some 4, none, .mv (.k (.i .i64 0))⟩])
  (.seq (.seq (.reg [⟨some 6, none, .mv (.t 0)⟩, ⟨some 7, none, .len (.t 6)⟩, ⟨some 8, none, .mv (.k (.i .i64 0))⟩])
  (.blk 0
   (.loop [0, 1, 7, 8] c_slices_IndexFunc_api_IniPeer_l0)))
  (.seq (.reg [⟨some 4, none, .mv (.k (.i .i64 (-1)))⟩])
  .ret)))⟩
noncomputable def c_keys_Zero : AFn := ⟨1, 6, [.tmp 2],
  (.seq (.reg [⟨some 1, none, .box 32 (.t 0)⟩, ⟨some 2, none, .mv (.k (.b false))⟩])
  (.seq (.reg [⟨some 3, none, .ld true 32 (.t 1)⟩, ⟨some 4, none, .bld z_api_Key []⟩, ⟨some 5, none, .eq false (.agg (kk [(32, .i .u8)])) (.t 3) (.t 4)⟩, ⟨some 2, none, .mv (.t 5)⟩])
  .ret))⟩
noncomputable def c_hostport_Right : AFn := ⟨1, 16, [.tmp 2],
  (.seq (.reg [⟨some 1, none, .box 18 (.t 0)⟩, ⟨some 2, none, .mv (.k (.b false))⟩])
  (.seq (.reg [⟨some 3, none, .fa 0 (.t 1)⟩, ⟨some 4, none, .ld true 17 (.t 3)⟩, ⟨some 5, none, .call fn_addr_Right [(.t 4)]⟩, ⟨some 6, none, .mv (.t 5)⟩, ⟨some 7, some (6, true), .fa 17 (.t 1)⟩, ⟨some 8, some (6, true), .ld false 1 (.t 7)⟩, ⟨some 9, some (6, true), .bin .geq (.t 8) (.k (.i .i64 1))⟩, ⟨some 10, none, .pick (.t 6) (.t 9) (.k (.b false))⟩, ⟨some 11, none, .mv (.t 10)⟩, ⟨some 12, some (11, true), .fa 17 (.t 1)⟩, ⟨some 13, some (11, true), .ld false 1 (.t 12)⟩, ⟨some 14, some (11, true), .bin .leq (.t 13) (.k (.i .i64 65535))⟩, ⟨some 15, none, .pick (.t 11) (.t 14) (.k (.b false))⟩, ⟨some 2, none, .mv (.t 15)⟩])
  .ret))⟩
noncomputable def c_slices_ContainsFunc_api_Prefix : AFn := ⟨2, 9, [.tmp 4],
  (.seq (.reg [⟨some 4, none, .mv (.k (.b false))⟩])
  (.seq (.reg [⟨some 5, none, .mv (.t 0)⟩, ⟨some 6, none, .mv (.t 1)⟩, ⟨some 7, none, .call fn_slices_IndexFunc_api_Prefix [(.t 5), (.t 6)]⟩, ⟨some 8, none, .bin .geq (.t 7) (.k (.i .i64 0))⟩, ⟨some 4, none, .mv (.t 8)⟩])
  .ret))⟩
noncomputable def c_iniwrite_wrong_1 : AFn := ⟨1, 6, [.tmp 2],
  (.seq (.reg [⟨some 1, none, .box 18 (.t 0)⟩, ⟨some 2, none, .mv (.k (.b false))⟩])
  (.seq (.reg [⟨some 3, none, .ld true 18 (.t 1)⟩, ⟨some 4, none, .call fn_cidr_Right [(.t 3)]⟩, ⟨some 5, none, .un .not (.t 4)⟩, ⟨some 2, none, .mv (.t 5)⟩])
  .ret))⟩
noncomputable def c_cidr_Right : AFn := ⟨1, 20, [.tmp 2],
  (.seq (.reg [⟨some 1, none, .box 18 (.t 0)⟩, ⟨some 2, none, .mv (.k (.b false))⟩])
  (.seq (.reg [⟨some 6, none, .fa 0 (.t 1)⟩, ⟨some 7, none, .ld true 17 (.t 6)⟩, ⟨some 8, none, .fa 17 (.t 1)⟩, ⟨some 9, none, .ld false 1 (.t 8)⟩, ⟨some 10, none, .call fn_cidr_Of [(.t 7), (.t 9)]⟩, ⟨some 5, none, .mv (.t 10)⟩, ⟨some 11, none, .ext (.t 5) 0⟩, ⟨some 12, none, .ext (.t 5) 1⟩, ⟨some 3, none, .alloc z_api_Prefix⟩, ⟨none, none, .st 18 (.t 3) (.t 11)⟩, ⟨some 4, none, .mv (.t 12)⟩])
  (.seq (.reg [⟨some 13, none, .mv (.t 4)⟩, ⟨some 14, none, .bin .eql (.t 13) (.k (.i .i64 0))⟩, ⟨some 15, none, .mv (.t 14)⟩, ⟨some 16, some (15, true), .ld true 18 (.t 3)⟩, ⟨some 17, some (15, true), .ld true 18 (.t 1)⟩, ⟨some 18, some (15, true), .eq false (.agg (kk [(1, .i .i64), (16, .i .u8), (1, .i .i64)])) (.t 16) (.t 17)⟩, ⟨some 19, none, .pick (.t 15) (.t 18) (.k (.b false))⟩, ⟨some 2, none, .mv (.t 19)⟩])
  .ret)))⟩
noncomputable def c_slices_IndexFunc_api_PeerChange_l0 : AC :=
  (.seq (.reg [⟨some 9, none, .bin .lss (.t 8) (.t 7)⟩])
  (.seq (.cond (.t 9)
   .skip
   (.exit 0))
  (.seq (.blk 1
   (.seq (.reg [⟨some 10, none, .mv (.t 8)⟩, ⟨some 5, none, .mv (.t 10)⟩])
   (.seq (.reg [⟨some 11, none, .mv (.t 1)⟩, ⟨some 12, none, .mv (.t 0)⟩, ⟨some 13, none, .mv (.t 5)⟩, ⟨some 14, none, .ias 90 (.t 12) (.t 13)⟩, ⟨some 15, none, .ld true 90 (.t 14)⟩, ⟨some 16, none, .callv (.t 11) [(.t 15)]⟩])
   (.cond (.t 16)
    (.seq (.reg [⟨some 17, none, .mv (.t 5)⟩, ⟨some 4, none, .mv (.t 17)⟩])
    .ret)
    .skip))))
  (.reg [⟨some 18, none, .bin .add (.t 8) (.k (.i .i64 1))⟩, ⟨some 8, none, .mv (.t 18)⟩]))))
noncomputable def c_slices_IndexFunc_api_PeerChange : AFn := ⟨2, 19, [.tmp 4],
  (.seq (.reg [⟨some 4, none, .mv (.k (.i .i64 0))⟩])
  (.seq (.seq (.reg [⟨some 6, none, .mv (.t 0)⟩, ⟨some 7, none, .len (.t 6)⟩, ⟨some 8, none, .mv (.k (.i .i64 0))⟩])
  (.blk 0
   (.loop [0, 1, 7, 8] c_slices_IndexFunc_api_PeerChange_l0)))
  (.seq (.reg [⟨some 4, none, .mv (.k (.i .i64 (-1)))⟩])
  .ret)))⟩
noncomputable def c_change_only_api_Endpoint : AFn := ⟨2, 12, [.tmp 4],
  (.seq (.reg [⟨some 3, none, .box 18 (.t 1)⟩, ⟨some 4, none, .mv (.k (.b false))⟩])
  (.seq (.reg [⟨some 5, none, .alloc z_api_Endpoint⟩])
  (.seq (.reg [⟨some 6, none, .mv (.t 0)⟩, ⟨some 7, none, .mv (.t 6)⟩, ⟨some 8, some (7, false), .ld true 18 (.t 3)⟩, ⟨some 9, some (7, false), .ld true 18 (.t 5)⟩, ⟨some 10, some (7, false), .eq false (.agg (kk [(1, .i .i64), (16, .i .u8), (1, .i .i64)])) (.t 8) (.t 9)⟩, ⟨some 11, none, .pick (.t 7) (.k (.b true)) (.t 10)⟩, ⟨some 4, none, .mv (.t 11)⟩])
  .ret)))⟩
noncomputable def c_change_RightPeer_1 : AFn := ⟨1, 6, [.tmp 2],
  (.seq (.reg [⟨some 1, none, .box 18 (.t 0)⟩, ⟨some 2, none, .mv (.k (.b false))⟩])
  (.seq (.reg [⟨some 3, none, .ld true 18 (.t 1)⟩, ⟨some 4, none, .call fn_cidr_Right [(.t 3)]⟩, ⟨some 5, none, .un .not (.t 4)⟩, ⟨some 2, none, .mv (.t 5)⟩])
  .ret))⟩
noncomputable def c_r10_digit_l0 : AC :=
  (.seq (.seq (.reg [⟨some 13, none, .mv (.t 6)⟩, ⟨some 14, none, .mv (.t 1)⟩, ⟨some 15, none, .bin .rem (.t 14) (.k (.i .i64 8))⟩, ⟨some 16, none, .bin .gtr (.t 13) (.t 15)⟩])
  (.cond (.t 16)
   .skip
   (.exit 0)))
  (.seq (.blk 1
   (.reg [⟨some 19, none, .mv (.t 5)⟩, ⟨some 20, none, .bin .quo (.t 19) (.k (.i .i64 2))⟩, ⟨some 5, none, .mv (.t 20)⟩]))
  (.reg [⟨some 17, none, .mv (.t 6)⟩, ⟨some 18, none, .bin .sub (.t 17) (.k (.i .i64 1))⟩, ⟨some 6, none, .mv (.t 18)⟩])))
noncomputable def c_r10_digit : AFn := ⟨2, 23, [.tmp 4],
  (.seq (.reg [⟨some 2, none, .box 17 (.t 0)⟩, ⟨some 4, none, .mv (.k (.i .i64 0))⟩])
  (.seq (.reg [⟨some 7, none, .mv (.t 1)⟩, ⟨some 8, none, .bin .quo (.t 7) (.k (.i .i64 8))⟩, ⟨some 9, none, .fa 1 (.t 2)⟩, ⟨some 10, none, .iaa 16 1 (.t 9) (.t 8)⟩, ⟨some 11, none, .ld false 1 (.t 10)⟩, ⟨some 12, none, .cvi .i64 (.t 11)⟩, ⟨some 5, none, .mv (.t 12)⟩])
  (.seq (.seq (.reg [⟨some 6, none, .mv (.k (.i .i64 7))⟩])
  (.blk 0
   (.loop [1, 5, 6] c_r10_digit_l0)))
  (.seq (.reg [⟨some 21, none, .mv (.t 5)⟩, ⟨some 22, none, .bin .rem (.t 21) (.k (.i .i64 2))⟩, ⟨some 4, none, .mv (.t 22)⟩])
  .ret))))⟩
noncomputable def c_addr_Right : AFn := ⟨1, 20, [.tmp 2],
  (.seq (.reg [⟨some 1, none, .box 17 (.t 0)⟩, ⟨some 2, none, .mv (.k (.b false))⟩])
  (.seq (.regq [⟨some 3, none, .fa 0 (.t 1)⟩, ⟨some 4, none, .ld false 1 (.t 3)⟩, ⟨some 5, none, .bin .eql (.t 4) (.k (.i .i64 6))⟩, ⟨some 6, none, .mv (.t 5)⟩, ⟨some 7, some (6, false), .fa 0 (.t 1)⟩, ⟨some 8, some (6, false), .ld false 1 (.t 7)⟩, ⟨some 9, some (6, false), .bin .eql (.t 8) (.k (.i .i64 4))⟩, ⟨some 10, some (6, false), .mv (.t 9)⟩, ⟨some 11, some (10, true), .ld true 17 (.t 1)⟩, ⟨some 12, some (10, true), .fa 1 (.t 1)⟩, ⟨some 13, some (10, true), .sla 16 1 (.t 12) none (some (.k (.i .i64 4)))⟩, ⟨some 14, some (10, true), .s2a 4 1 (.t 13)⟩, ⟨some 15, some (10, true), .ld true 4 (.t 14)⟩, ⟨some 16, some (10, true), .call fn_addr_Four [(.t 15)]⟩, ⟨some 17, some (10, true), .eq false (.agg (kk [(1, .i .i64), (16, .i .u8)])) (.t 11) (.t 16)⟩, ⟨some 18, some (6, false), .pick (.t 10) (.t 17) (.k (.b false))⟩, ⟨some 19, none, .pick (.t 6) (.k (.b true)) (.t 18)⟩, ⟨some 2, none, .mv (.t 19)⟩])
  .ret))⟩
noncomputable def c_slices_IndexFunc_api_Prefix_l0 : AC :=
  (.seq (.reg [⟨some 9, none, .bin .lss (.t 8) (.t 7)⟩])
  (.seq (.cond (.t 9)
   .skip
   (.exit 0))
  (.seq (.blk 1
   (.seq (.reg [⟨some 10, none, .mv (.t 8)⟩, ⟨some 5, none, .mv (.t 10)⟩])
   (.seq (.reg [⟨some 11, none, .mv (.t 1)⟩, ⟨some 12, none, .mv (.t 0)⟩, ⟨some 13, none, .mv (.t 5)⟩, ⟨some 14, none, .ias 18 (.t 12) (.t 13)⟩, ⟨some 15, none, .ld true 18 (.t 14)⟩, ⟨some 16, none, .callv (.t 11) [(.t 15)]⟩])
   (.cond (.t 16)
    (.seq (.reg [⟨some 17, none, .mv (.t 5)⟩, ⟨some 4, none, .mv (.t 17)⟩])
    .ret)
    .skip))))
  (.reg [⟨some 18, none, .bin .add (.t 8) (.k (.i .i64 1))⟩, ⟨some 8, none, .mv (.t 18)⟩]))))
noncomputable def c_slices_IndexFunc_api_Prefix : AFn := ⟨2, 19, [.tmp 4],
  (.seq (.reg [⟨some 4, none, .mv (.k (.i .i64 0))⟩])
  (.seq (.seq (.reg [⟨some 6, none, .mv (.t 0)⟩, ⟨some 7, none, .len (.t 6)⟩, ⟨some 8, none, .mv (.k (.i .i64 0))⟩])
  (.blk 0
   (.loop [0, 1, 7, 8] c_slices_IndexFunc_api_Prefix_l0)))
  (.seq (.reg [⟨some 4, none, .mv (.k (.i .i64 (-1)))⟩])
  .ret)))⟩
noncomputable def c_cidr_Of : AFn := ⟨2, 26, [.cell true 18 4, .tmp 5],
  (.seq (.reg [⟨some 2, none, .box 17 (.t 0)⟩, ⟨some 4, none, .alloc z_api_Prefix⟩, ⟨some 5, none, .mv (.k (.i .i64 0))⟩])
  (.seq (.blk 0
   (.seq (.reg [⟨some 7, none, .ld true 17 (.t 2)⟩, ⟨some 8, none, .call fn_addr_Right [(.t 7)]⟩, ⟨some 9, none, .un .not (.t 8)⟩, ⟨some 6, none, .mv (.t 9)⟩])
   (.cond (.t 6)
    (.seq (.reg [⟨some 10, none, .bld z_api_Prefix []⟩, ⟨none, none, .st 18 (.t 4) (.t 10)⟩, ⟨some 5, none, .mv (.k (.i .i64 1))⟩])
    .ret)
    (.seq (.reg [⟨some 12, none, .mv (.t 1)⟩, ⟨some 13, none, .bin .lss (.t 12) (.k (.i .i64 0))⟩, ⟨some 14, none, .mv (.t 13)⟩, ⟨some 15, some (14, false), .mv (.t 1)⟩, ⟨some 16, some (14, false), .ld true 17 (.t 2)⟩, ⟨some 17, some (14, false), .call fn_addr_Width [(.t 16)]⟩, ⟨some 18, some (14, false), .bin .gtr (.t 15) (.t 17)⟩, ⟨some 19, none, .pick (.t 14) (.k (.b true)) (.t 18)⟩, ⟨some 11, none, .mv (.t 19)⟩])
    (.cond (.t 11)
     (.seq (.reg [⟨some 20, none, .bld z_api_Prefix []⟩, ⟨none, none, .st 18 (.t 4) (.t 20)⟩, ⟨some 5, none, .mv (.k (.i .i64 6))⟩])
     .ret)
     .skip)))))
  (.seq (.reg [⟨some 21, none, .ld true 17 (.t 2)⟩, ⟨some 22, none, .mv (.t 1)⟩, ⟨some 23, none, .call fn_addr_Mask [(.t 21), (.t 22)]⟩, ⟨some 24, none, .mv (.t 1)⟩, ⟨some 25, none, .bld z_api_Prefix [(0, 17, (.t 23)), (17, 1, (.t 24))]⟩, ⟨none, none, .st 18 (.t 4) (.t 25)⟩, ⟨some 5, none, .mv (.k (.i .i64 0))⟩])
  .ret)))⟩
noncomputable def c_addr_Four : AFn := ⟨1, 10, [.cell true 17 2],
  (.seq (.reg [⟨some 1, none, .box 4 (.t 0)⟩, ⟨some 2, none, .alloc z_api_Addr⟩])
  (.seq (.reg [⟨some 4, none, .bld z_api_Addr [(0, 1, (.k (.i .i64 4)))]⟩, ⟨some 3, none, .alloc z_api_Addr⟩, ⟨none, none, .st 17 (.t 3) (.t 4)⟩])
  (.seq (.regd [⟨some 5, none, .fa 1 (.t 3)⟩, ⟨some 6, none, .sla 16 1 (.t 5) none none⟩, ⟨some 7, none, .sla 4 1 (.t 1) none none⟩, ⟨some 8, none, .cpy 1 (.t 6) (.t 7)⟩] [some (0, 0), some (0, 0), some (0, 0), none])
  (.seq (.reg [⟨some 9, none, .ld true 17 (.t 3)⟩, ⟨none, none, .st 17 (.t 2) (.t 9)⟩])
  .ret))))⟩
noncomputable def c_addr_Width : AFn := ⟨1, 11, [.tmp 2],
  (.seq (.reg [⟨some 1, none, .box 17 (.t 0)⟩, ⟨some 2, none, .mv (.k (.i .i64 0))⟩])
  (.seq (.blk 0
   (.seq (.reg [⟨some 4, none, .ld true 17 (.t 1)⟩, ⟨some 5, none, .call fn_addr_Right [(.t 4)]⟩, ⟨some 6, none, .un .not (.t 5)⟩, ⟨some 3, none, .mv (.t 6)⟩])
   (.cond (.t 3)
    (.seq (.reg [⟨some 2, none, .mv (.k (.i .i64 0))⟩])
    .ret)
    (.seq (.reg [⟨some 8, none, .fa 0 (.t 1)⟩, ⟨some 9, none, .ld false 1 (.t 8)⟩, ⟨some 10, none, .bin .eql (.t 9) (.k (.i .i64 4))⟩, ⟨some 7, none, .mv (.t 10)⟩])
    (.cond (.t 7)
     (.seq (.reg [⟨some 2, none, .mv (.k (.i .i64 32))⟩])
     .ret)
     .skip)))))
  (.seq (.reg [⟨some 2, none, .mv (.k (.i .i64 128))⟩])
  .ret)))⟩
noncomputable def c_addr_Mask_l0 : AC :=
  (.seq (.reg [⟨some 12, none, .bin .lss (.t 11) (.k (.i .i64 16))⟩])
  (.seq (.cond (.t 12)
   .skip
   (.exit 0))
  (.seq (.blk 1
   (.seq (.reg [⟨some 13, none, .mv (.t 11)⟩, ⟨some 5, none, .mv (.t 13)⟩])
   (.seq (.reg [⟨some 14, none, .mv (.t 1)⟩, ⟨some 15, none, .mv (.t 5)⟩, ⟨some 16, none, .bin .mul (.k (.i .i64 8)) (.t 15)⟩, ⟨some 17, none, .bin .sub (.t 14) (.t 16)⟩, ⟨some 18, none, .mnx true (.t 17) (.k (.i .i64 0))⟩, ⟨some 19, none, .mnx false (.t 18) (.k (.i .i64 8))⟩, ⟨some 6, none, .mv (.t 19)⟩])
   (.seq (.seq (.reg [⟨some 20, none, .mv (.t 1)⟩, ⟨some 21, none, .bin .lss (.t 20) (.k (.i .i64 0))⟩])
   (.cond (.t 21)
    (.reg [⟨some 6, none, .mv (.k (.i .i64 0))⟩])
    .skip))
   (.reg [⟨some 22, none, .mv (.t 5)⟩, ⟨some 23, none, .fa 1 (.t 2)⟩, ⟨some 24, none, .iaa 16 1 (.t 23) (.t 22)⟩, ⟨some 25, none, .ld false 1 (.t 24)⟩, ⟨some 26, none, .mv (.t 6)⟩, ⟨some 27, none, .bin .sub (.k (.i .i64 8)) (.t 26)⟩, ⟨some 28, none, .cvi .u64 (.t 27)⟩, ⟨some 29, none, .bin .shl (.k (.i .u8 255)) (.t 28)⟩, ⟨some 30, none, .bin .and (.t 25) (.t 29)⟩, ⟨some 31, none, .fa 1 (.t 2)⟩, ⟨some 32, none, .iaa 16 1 (.t 31) (.t 22)⟩, ⟨none, none, .st 1 (.t 32) (.t 30)⟩])))))
  (.reg [⟨some 33, none, .bin .add (.t 11) (.k (.i .i64 1))⟩, ⟨some 11, none, .mv (.t 33)⟩]))))
noncomputable def c_addr_Mask : AFn := ⟨2, 35, [.cell true 17 4],
  (.seq (.reg [⟨some 2, none, .box 17 (.t 0)⟩, ⟨some 4, none, .alloc z_api_Addr⟩])
  (.seq (.seq (.reg [⟨some 7, none, .ld true 17 (.t 2)⟩, ⟨some 8, none, .call fn_addr_Right [(.t 7)]⟩, ⟨some 9, none, .un .not (.t 8)⟩])
  (.cond (.t 9)
   (.seq (.reg [⟨some 10, none, .bld z_api_Addr []⟩, ⟨none, none, .st 17 (.t 4) (.t 10)⟩])
   .ret)
   .skip))
  (.seq (.seq (.reg [⟨some 11, none, .mv (.k (.i .i64 0))⟩])
  (.blk 0
   (.loop [1, 2, 4, 11] c_addr_Mask_l0)))
  (.seq (.reg [⟨some 34, none, .ld true 17 (.t 2)⟩, ⟨none, none, .st 17 (.t 4) (.t 34)⟩])
  .ret))))⟩
noncomputable def fnl : List (Nat × AFn) := [(fn_l45_CompileOf, c_l45_CompileOf),
  (fn_l45_CompileAsks, c_l45_CompileAsks),
  (fn_r34_Large, c_r34_Large),
  (fn_l45_alive, c_l45_alive),
  (fn_compile_Of, c_compile_Of),
  (fn_r43_Same, c_r43_Same),
  (fn_r45_Of, c_r45_Of),
  (fn_r34_Right, c_r34_Right),
  (fn_iniwrite_Right, c_iniwrite_Right),
  (fn_r43_Large, c_r43_Large),
  (fn_compile_Request, c_compile_Request),
  (fn_r32_Same, c_r32_Same),
  (fn_r45_Request, c_r45_Request),
  (fn_r44_Right, c_r44_Right),
  (fn_change_Right, c_change_Right),
  (fn_compile_each_api_Peer_api_IniPeer, c_compile_each_api_Peer_api_IniPeer),
  (fn_compile_Of_1, c_compile_Of_1),
  (fn_slices_Clone_api_Prefix, c_slices_Clone_api_Prefix),
  (fn_r11_Same, c_r11_Same),
  (fn_r34_from, c_r34_from),
  (fn_r12_Right, c_r12_Right),
  (fn_r11_Right, c_r11_Right),
  (fn_r11_Less, c_r11_Less),
  (fn_iniwrite_short, c_iniwrite_short),
  (fn_slices_ContainsFunc_api_IniPeer, c_slices_ContainsFunc_api_IniPeer),
  (fn_iniwrite_wrong, c_iniwrite_wrong),
  (fn_compile_each_api_IniPeer_api_PeerChange, c_compile_each_api_IniPeer_api_PeerChange),
  (fn_compile_Request_1, c_compile_Request_1),
  (fn_hostport_None, c_hostport_None),
  (fn_r32_SamePeer, c_r32_SamePeer),
  (fn_r44_from, c_r44_from),
  (fn_change_only_api_Key, c_change_only_api_Key),
  (fn_change_only_int, c_change_only_int),
  (fn_change_only_uint32, c_change_only_uint32),
  (fn_change_short, c_change_short),
  (fn_slices_ContainsFunc_api_PeerChange, c_slices_ContainsFunc_api_PeerChange),
  (fn_change_Right_1, c_change_Right_1),
  (fn_change_RightPeer, c_change_RightPeer),
  (fn_r10_Right, c_r10_Right),
  (fn_r10_Width, c_r10_Width),
  (fn_r10_Mask, c_r10_Mask),
  (fn_r10_Less, c_r10_Less),
  (fn_slices_IndexFunc_api_IniPeer, c_slices_IndexFunc_api_IniPeer),
  (fn_keys_Zero, c_keys_Zero),
  (fn_hostport_Right, c_hostport_Right),
  (fn_slices_ContainsFunc_api_Prefix, c_slices_ContainsFunc_api_Prefix),
  (fn_iniwrite_wrong_1, c_iniwrite_wrong_1),
  (fn_cidr_Right, c_cidr_Right),
  (fn_slices_IndexFunc_api_PeerChange, c_slices_IndexFunc_api_PeerChange),
  (fn_change_only_api_Endpoint, c_change_only_api_Endpoint),
  (fn_change_RightPeer_1, c_change_RightPeer_1),
  (fn_r10_digit, c_r10_digit),
  (fn_addr_Right, c_addr_Right),
  (fn_slices_IndexFunc_api_Prefix, c_slices_IndexFunc_api_Prefix),
  (fn_cidr_Of, c_cidr_Of),
  (fn_addr_Four, c_addr_Four),
  (fn_addr_Width, c_addr_Width),
  (fn_addr_Mask, c_addr_Mask)]
noncomputable def tb : Tab := ⟨fun n => look n fnl, fun _ => none, fun _ => none⟩
theorem f_l45_CompileOf : tb.fns fn_l45_CompileOf = some c_l45_CompileOf := rfl
theorem f_l45_CompileAsks : tb.fns fn_l45_CompileAsks = some c_l45_CompileAsks := rfl
theorem f_r34_Large : tb.fns fn_r34_Large = some c_r34_Large := rfl
theorem f_l45_alive : tb.fns fn_l45_alive = some c_l45_alive := rfl
theorem f_compile_Of : tb.fns fn_compile_Of = some c_compile_Of := rfl
theorem f_r43_Same : tb.fns fn_r43_Same = some c_r43_Same := rfl
theorem f_r45_Of : tb.fns fn_r45_Of = some c_r45_Of := rfl
theorem f_r34_Right : tb.fns fn_r34_Right = some c_r34_Right := rfl
theorem f_iniwrite_Right : tb.fns fn_iniwrite_Right = some c_iniwrite_Right := rfl
theorem f_r43_Large : tb.fns fn_r43_Large = some c_r43_Large := rfl
theorem f_compile_Request : tb.fns fn_compile_Request = some c_compile_Request := rfl
theorem f_r32_Same : tb.fns fn_r32_Same = some c_r32_Same := rfl
theorem f_r45_Request : tb.fns fn_r45_Request = some c_r45_Request := rfl
theorem f_r44_Right : tb.fns fn_r44_Right = some c_r44_Right := rfl
theorem f_change_Right : tb.fns fn_change_Right = some c_change_Right := rfl
theorem f_compile_each_api_Peer_api_IniPeer : tb.fns fn_compile_each_api_Peer_api_IniPeer = some c_compile_each_api_Peer_api_IniPeer := rfl
theorem f_compile_Of_1 : tb.fns fn_compile_Of_1 = some c_compile_Of_1 := rfl
theorem f_slices_Clone_api_Prefix : tb.fns fn_slices_Clone_api_Prefix = some c_slices_Clone_api_Prefix := rfl
theorem f_r11_Same : tb.fns fn_r11_Same = some c_r11_Same := rfl
theorem f_r34_from : tb.fns fn_r34_from = some c_r34_from := rfl
theorem f_r12_Right : tb.fns fn_r12_Right = some c_r12_Right := rfl
theorem f_r11_Right : tb.fns fn_r11_Right = some c_r11_Right := rfl
theorem f_r11_Less : tb.fns fn_r11_Less = some c_r11_Less := rfl
theorem f_iniwrite_short : tb.fns fn_iniwrite_short = some c_iniwrite_short := rfl
theorem f_slices_ContainsFunc_api_IniPeer : tb.fns fn_slices_ContainsFunc_api_IniPeer = some c_slices_ContainsFunc_api_IniPeer := rfl
theorem f_iniwrite_wrong : tb.fns fn_iniwrite_wrong = some c_iniwrite_wrong := rfl
theorem f_compile_each_api_IniPeer_api_PeerChange : tb.fns fn_compile_each_api_IniPeer_api_PeerChange = some c_compile_each_api_IniPeer_api_PeerChange := rfl
theorem f_compile_Request_1 : tb.fns fn_compile_Request_1 = some c_compile_Request_1 := rfl
theorem f_hostport_None : tb.fns fn_hostport_None = some c_hostport_None := rfl
theorem f_r32_SamePeer : tb.fns fn_r32_SamePeer = some c_r32_SamePeer := rfl
theorem f_r44_from : tb.fns fn_r44_from = some c_r44_from := rfl
theorem f_change_only_api_Key : tb.fns fn_change_only_api_Key = some c_change_only_api_Key := rfl
theorem f_change_only_int : tb.fns fn_change_only_int = some c_change_only_int := rfl
theorem f_change_only_uint32 : tb.fns fn_change_only_uint32 = some c_change_only_uint32 := rfl
theorem f_change_short : tb.fns fn_change_short = some c_change_short := rfl
theorem f_slices_ContainsFunc_api_PeerChange : tb.fns fn_slices_ContainsFunc_api_PeerChange = some c_slices_ContainsFunc_api_PeerChange := rfl
theorem f_change_Right_1 : tb.fns fn_change_Right_1 = some c_change_Right_1 := rfl
theorem f_change_RightPeer : tb.fns fn_change_RightPeer = some c_change_RightPeer := rfl
theorem f_r10_Right : tb.fns fn_r10_Right = some c_r10_Right := rfl
theorem f_r10_Width : tb.fns fn_r10_Width = some c_r10_Width := rfl
theorem f_r10_Mask : tb.fns fn_r10_Mask = some c_r10_Mask := rfl
theorem f_r10_Less : tb.fns fn_r10_Less = some c_r10_Less := rfl
theorem f_slices_IndexFunc_api_IniPeer : tb.fns fn_slices_IndexFunc_api_IniPeer = some c_slices_IndexFunc_api_IniPeer := rfl
theorem f_keys_Zero : tb.fns fn_keys_Zero = some c_keys_Zero := rfl
theorem f_hostport_Right : tb.fns fn_hostport_Right = some c_hostport_Right := rfl
theorem f_slices_ContainsFunc_api_Prefix : tb.fns fn_slices_ContainsFunc_api_Prefix = some c_slices_ContainsFunc_api_Prefix := rfl
theorem f_iniwrite_wrong_1 : tb.fns fn_iniwrite_wrong_1 = some c_iniwrite_wrong_1 := rfl
theorem f_cidr_Right : tb.fns fn_cidr_Right = some c_cidr_Right := rfl
theorem f_slices_IndexFunc_api_PeerChange : tb.fns fn_slices_IndexFunc_api_PeerChange = some c_slices_IndexFunc_api_PeerChange := rfl
theorem f_change_only_api_Endpoint : tb.fns fn_change_only_api_Endpoint = some c_change_only_api_Endpoint := rfl
theorem f_change_RightPeer_1 : tb.fns fn_change_RightPeer_1 = some c_change_RightPeer_1 := rfl
theorem f_r10_digit : tb.fns fn_r10_digit = some c_r10_digit := rfl
theorem f_addr_Right : tb.fns fn_addr_Right = some c_addr_Right := rfl
theorem f_slices_IndexFunc_api_Prefix : tb.fns fn_slices_IndexFunc_api_Prefix = some c_slices_IndexFunc_api_Prefix := rfl
theorem f_cidr_Of : tb.fns fn_cidr_Of = some c_cidr_Of := rfl
theorem f_addr_Four : tb.fns fn_addr_Four = some c_addr_Four := rfl
theorem f_addr_Width : tb.fns fn_addr_Width = some c_addr_Width := rfl
theorem f_addr_Mask : tb.fns fn_addr_Mask = some c_addr_Mask := rfl
theorem go_fn {f : Nat} {fn : AFn} {args : List AV} {h : Heap} (hf : tb.fns f = some fn) : calling tb (den tb) h f args = body tb (den tb) fn args h := by
  show den tb f args h = _
  rw [den_eq, hf]
  rfl
end Go.Proofs.Ytggdinpopddhnaa.Am
