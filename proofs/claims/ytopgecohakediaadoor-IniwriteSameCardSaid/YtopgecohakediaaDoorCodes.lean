/-
  The functions: their numbers, their codes. Printed by mkwalk.py.
-/
import Derived.Test.YtopgecohakediaaDoorTy
import Derived.Test.YtopgecohakediaaDoorAmV
set_option linter.unusedVariables false
set_option maxRecDepth 100000
namespace Go.Proofs.YtopgecohakediaaDoor.Am

def fn_l44_IniwriteSame : Nat := 8
def fn_lines_Join : Nat := 14
def fn_r43_Large : Nat := 24
def fn_l44_alive : Nat := 25
def fn_iniwrite_Same : Nat := 26
def fn_r43_Same : Nat := 27
def fn_p_strings_Builder_WriteString : Nat := 32
def fn_p_strings_Builder_String : Nat := 33
def fn_iniwrite_Text : Nat := 39
def fn_slices_EqualFunc_api_IniPeer_api_IniPeer : Nat := 40
def fn_iniwrite_alike : Nat := 41
def fn_r11_Same : Nat := 42
def fn_p_strings_Builder_copyCheck : Nat := 47
def fn_iniwrite_Right : Nat := 51
def fn_iniwrite_file : Nat := 52
def fn_slices_Equal_api_Prefix : Nat := 53
def fn_internal_abi_NoEscape : Nat := 58
def fn_iniwrite_short : Nat := 60
def fn_slices_ContainsFunc_api_IniPeer : Nat := 61
def fn_iniwrite_wrong : Nat := 62
def fn_iniwrite_file_1 : Nat := 63
def fn_iniwrite_file_2 : Nat := 64
def fn_iniwrite_file_2_1 : Nat := 65
def fn_decimal_Text : Nat := 66
def fn_iniwrite_file_3 : Nat := 67
def fn_iniwrite_file_3_1 : Nat := 68
def fn_keys_Text : Nat := 69
def fn_keys_Zero : Nat := 70
def fn_hostport_None : Nat := 71
def fn_iniwrite_file_4 : Nat := 72
def fn_hostport_Text : Nat := 73
def fn_iniwrite_file_5 : Nat := 74
def fn_cidr_Text : Nat := 75
def fn_slices_IndexFunc_api_IniPeer : Nat := 85
def fn_hostport_Right : Nat := 86
def fn_slices_ContainsFunc_api_Prefix : Nat := 87
def fn_iniwrite_wrong_1 : Nat := 88
def fn_cidr_Right : Nat := 89
def fn_strconv_FormatUint : Nat := 90
def fn_sixtyfour_Encode : Nat := 91
def fn_addr_Width : Nat := 92
def fn_addr_Text : Nat := 93
def fn_addr_Right : Nat := 100
def fn_slices_IndexFunc_api_Prefix : Nat := 101
def fn_cidr_Of : Nat := 102
def fn_internal_strconv_FormatUint : Nat := 103
def fn_p_strings_Builder_WriteByte : Nat := 104
def fn_strings_Repeat : Nat := 105
def fn_quad_Text : Nat := 106
def fn_colon_Text : Nat := 107
def fn_addr_Four : Nat := 109
def fn_addr_Mask : Nat := 110
def fn_strings_Join : Nat := 119
def fn_colon_groups : Nat := 120
def fn_colon_longest : Nat := 121
def fn_colon_row : Nat := 122
def fn_hexes_Group : Nat := 133
noncomputable def c_l44_IniwriteSame : AFn := ⟨false, 2, 27, [.tmp 4],
  (.seq (rg false [⟨some 2, none, .box 56 35 (.t 0)⟩, ⟨some 3, none, .box 56 35 (.t 1)⟩, ⟨some 4, none, .mv (.k (.b false))⟩])
  (.seq (.seq (rg false [⟨some 5, none, .ld true 35 (.t 2)⟩, ⟨some 6, none, .call fn_r43_Large [(.t 5)]⟩, ⟨some 7, none, .mv (.t 6)⟩, ⟨some 8, some (7, false), .ld true 35 (.t 3)⟩, ⟨some 9, some (7, false), .call fn_r43_Large [(.t 8)]⟩, ⟨some 10, none, .pick (.t 7) (.k (.b true)) (.t 9)⟩])
  (.cond (.t 10)
   (.seq (rg false [⟨some 11, none, .call fn_l44_alive []⟩, ⟨some 4, none, .mv (.t 11)⟩])
   .ret)
   .skip))
  (.seq (rg true [⟨some 12, none, .ld true 35 (.t 2)⟩, ⟨some 13, none, .ld true 35 (.t 3)⟩, ⟨some 14, none, .call fn_iniwrite_Same [(.t 12), (.t 13)]⟩, ⟨some 15, none, .ld true 35 (.t 2)⟩, ⟨some 16, none, .ld true 35 (.t 3)⟩, ⟨some 17, none, .call fn_r43_Same [(.t 15), (.t 16)]⟩, ⟨some 18, none, .eq false (.one (.b)) (.t 14) (.t 17)⟩, ⟨some 19, none, .mv (.t 18)⟩, ⟨some 20, some (19, true), .ld true 35 (.t 2)⟩, ⟨some 21, some (19, true), .ld true 35 (.t 2)⟩, ⟨some 22, some (19, true), .call fn_iniwrite_Same [(.t 20), (.t 21)]⟩, ⟨some 23, none, .pick (.t 19) (.t 22) (.k (.b false))⟩, ⟨some 24, none, .mv (.t 23)⟩, ⟨some 25, some (24, true), .call fn_l44_alive []⟩, ⟨some 26, none, .pick (.t 24) (.t 25) (.k (.b false))⟩, ⟨some 4, none, .mv (.t 26)⟩])
  .ret)))⟩
noncomputable def c_lines_Join_l0 : AC :=
  (.seq (rg false [⟨some 9, none, .bin .lss (.t 8) (.t 7)⟩])
  (.seq (.cond (.t 9)
   .skip
   (.exit 0))
  (.seq (.blk 1
   (.seq (rg false [⟨some 10, none, .ias 1 (.t 6) (.t 8)⟩, ⟨some 11, none, .ld false 1 (.t 10)⟩, ⟨some 5, none, .mv (.t 11)⟩])
   (.seq (rg false [⟨some 12, none, .mv (.t 5)⟩, ⟨some 13, none, .call fn_p_strings_Builder_WriteString [(.t 3), (.t 12)]⟩])
   (rg false [⟨some 14, none, .call fn_p_strings_Builder_WriteString [(.t 3), (.k (.s [10]))]⟩]))))
  (rg false [⟨some 15, none, .bin .add (.t 8) (.k (.i .i64 1))⟩, ⟨some 8, none, .mv (.t 15)⟩]))))
noncomputable def c_lines_Join : AFn := ⟨false, 1, 17, [.tmp 2],
  (.seq (rg false [⟨some 2, none, .mv (.k (.s []))⟩])
  (.seq (rg false [⟨some 3, none, .alloc 65 (zz [(1, .nilp), (1, .nils)])⟩])
  (.seq (.seq (rg false [⟨some 6, none, .mv (.t 0)⟩, ⟨some 7, none, .len (.t 6)⟩, ⟨some 8, none, .mv (.k (.i .i64 0))⟩])
  (.blk 0
   (.loop [3, 6, 7, 8] c_lines_Join_l0)))
  (.seq (rg false [⟨some 16, none, .call fn_p_strings_Builder_String [(.t 3)]⟩, ⟨some 2, none, .mv (.t 16)⟩])
  .ret))))⟩
noncomputable def c_r43_Large_l0 : AC :=
  (.seq (.seq (rg false [⟨some 8, none, .mv (.t 3)⟩, ⟨some 9, none, .fa 34 (.t 1)⟩, ⟨some 10, none, .ld false 1 (.t 9)⟩, ⟨some 11, none, .len (.t 10)⟩, ⟨some 12, none, .bin .lss (.t 8) (.t 11)⟩])
  (.cond (.t 12)
   .skip
   (.exit 0)))
  (.seq (.blk 1
   (.seq (rg false [⟨some 15, none, .fa 34 (.t 1)⟩, ⟨some 16, none, .ld false 1 (.t 15)⟩, ⟨some 17, none, .mv (.t 3)⟩, ⟨some 18, none, .ias 84 (.t 16) (.t 17)⟩, ⟨some 19, none, .fa 83 (.t 18)⟩, ⟨some 20, none, .ld false 1 (.t 19)⟩, ⟨some 21, none, .len (.t 20)⟩, ⟨some 22, none, .bin .gtr (.t 21) (.k (.i .i64 80))⟩])
   (.cond (.t 22)
    (.seq (rg false [⟨some 2, none, .mv (.k (.b true))⟩])
    .ret)
    .skip)))
  (rg false [⟨some 13, none, .mv (.t 3)⟩, ⟨some 14, none, .bin .add (.t 13) (.k (.i .i64 1))⟩, ⟨some 3, none, .mv (.t 14)⟩])))
noncomputable def c_r43_Large : AFn := ⟨false, 1, 23, [.tmp 2],
  (.seq (rg false [⟨some 1, none, .box 56 35 (.t 0)⟩, ⟨some 2, none, .mv (.k (.b false))⟩])
  (.seq (.seq (rg false [⟨some 4, none, .fa 34 (.t 1)⟩, ⟨some 5, none, .ld false 1 (.t 4)⟩, ⟨some 6, none, .len (.t 5)⟩, ⟨some 7, none, .bin .gtr (.t 6) (.k (.i .i64 80))⟩])
  (.cond (.t 7)
   (.seq (rg false [⟨some 2, none, .mv (.k (.b true))⟩])
   .ret)
   .skip))
  (.seq (.seq (rg false [⟨some 3, none, .mv (.k (.i .i64 0))⟩])
  (.blk 0
   (.loop [1, 3] c_r43_Large_l0)))
  (.seq (rg false [⟨some 2, none, .mv (.k (.b false))⟩])
  .ret))))⟩
noncomputable def c_l44_alive : AFn := ⟨false, 0, 14, [.tmp 0],
  (.seq (rg false [⟨some 0, none, .mv (.k (.b false))⟩])
  (.seq (rg false [⟨some 4, none, .bld T_api_Ini.zc []⟩, ⟨some 5, none, .call fn_iniwrite_Text [(.t 4)]⟩, ⟨some 3, none, .mv (.t 5)⟩, ⟨some 6, none, .ext (.t 3) 0⟩, ⟨some 7, none, .ext (.t 3) 1⟩, ⟨some 1, none, .mv (.t 6)⟩, ⟨some 2, none, .mv (.t 7)⟩])
  (.seq (rg false [⟨some 8, none, .mv (.t 2)⟩, ⟨some 9, none, .bin .eql (.t 8) (.k (.i .i64 0))⟩, ⟨some 10, none, .mv (.t 9)⟩, ⟨some 11, some (10, true), .mv (.t 1)⟩, ⟨some 12, some (10, true), .bin .eql (.t 11) (.k (.s [91, 73, 110, 116, 101, 114, 102, 97, 99, 101, 93, 10]))⟩, ⟨some 13, none, .pick (.t 10) (.t 12) (.k (.b false))⟩, ⟨some 0, none, .mv (.t 13)⟩])
  .ret)))⟩
noncomputable def c_iniwrite_Same : AFn := ⟨false, 2, 31, [.tmp 4],
  (.seq (rg false [⟨some 2, none, .box 56 35 (.t 0)⟩, ⟨some 3, none, .box 56 35 (.t 1)⟩, ⟨some 4, none, .mv (.k (.b false))⟩])
  (.seq (rg false [⟨some 5, none, .fa 0 (.t 2)⟩, ⟨some 6, none, .ld true 32 (.t 5)⟩, ⟨some 7, none, .fa 0 (.t 3)⟩, ⟨some 8, none, .ld true 32 (.t 7)⟩, ⟨some 9, none, .eq false (.agg (kk [(32, .i .u8)])) (.t 6) (.t 8)⟩, ⟨some 10, none, .mv (.t 9)⟩, ⟨some 11, some (10, true), .fa 32 (.t 2)⟩, ⟨some 12, some (10, true), .ld false 1 (.t 11)⟩, ⟨some 13, some (10, true), .fa 32 (.t 3)⟩, ⟨some 14, some (10, true), .ld false 1 (.t 13)⟩, ⟨some 15, some (10, true), .bin .eql (.t 12) (.t 14)⟩, ⟨some 16, none, .pick (.t 10) (.t 15) (.k (.b false))⟩, ⟨some 17, none, .mv (.t 16)⟩, ⟨some 18, some (17, true), .fa 33 (.t 2)⟩, ⟨some 19, some (17, true), .ld false 1 (.t 18)⟩, ⟨some 20, some (17, true), .fa 33 (.t 3)⟩, ⟨some 21, some (17, true), .ld false 1 (.t 20)⟩, ⟨some 22, some (17, true), .bin .eql (.t 19) (.t 21)⟩, ⟨some 23, none, .pick (.t 17) (.t 22) (.k (.b false))⟩, ⟨some 24, none, .mv (.t 23)⟩, ⟨some 25, some (24, true), .fa 34 (.t 2)⟩, ⟨some 26, some (24, true), .ld false 1 (.t 25)⟩, ⟨some 27, some (24, true), .fa 34 (.t 3)⟩, ⟨some 28, some (24, true), .ld false 1 (.t 27)⟩, ⟨some 29, some (24, true), .call fn_slices_EqualFunc_api_IniPeer_api_IniPeer [(.t 26), (.t 28), (.f fn_iniwrite_alike)]⟩, ⟨some 30, none, .pick (.t 24) (.t 29) (.k (.b false))⟩, ⟨some 4, none, .mv (.t 30)⟩])
  .ret))⟩
noncomputable def c_r43_Same_l0 : AC :=
  (.seq (.seq (rg false [⟨some 36, none, .mv (.t 5)⟩, ⟨some 37, none, .fa 34 (.t 2)⟩, ⟨some 38, none, .ld false 1 (.t 37)⟩, ⟨some 39, none, .len (.t 38)⟩, ⟨some 40, none, .bin .lss (.t 36) (.t 39)⟩])
  (.cond (.t 40)
   .skip
   (.exit 0)))
  (.seq (.blk 1
   (.seq (rg false [⟨some 43, none, .fa 34 (.t 2)⟩, ⟨some 44, none, .ld false 1 (.t 43)⟩, ⟨some 45, none, .mv (.t 5)⟩, ⟨some 46, none, .ias 84 (.t 44) (.t 45)⟩, ⟨some 47, none, .ld true 84 (.t 46)⟩, ⟨some 6, none, .alloc 85 T_api_IniPeer.zc⟩, ⟨none, none, .st 84 (.t 6) (.t 47)⟩])
   (.seq (rg false [⟨some 48, none, .fa 34 (.t 3)⟩, ⟨some 49, none, .ld false 1 (.t 48)⟩, ⟨some 50, none, .mv (.t 5)⟩, ⟨some 51, none, .ias 84 (.t 49) (.t 50)⟩, ⟨some 52, none, .ld true 84 (.t 51)⟩, ⟨some 7, none, .alloc 85 T_api_IniPeer.zc⟩, ⟨none, none, .st 84 (.t 7) (.t 52)⟩])
   (.seq (rg false [⟨some 53, none, .fa 0 (.t 6)⟩, ⟨some 54, none, .ld true 32 (.t 53)⟩, ⟨some 55, none, .fa 0 (.t 7)⟩, ⟨some 56, none, .ld true 32 (.t 55)⟩, ⟨some 57, none, .eq true (.agg (kk [(32, .i .u8)])) (.t 54) (.t 56)⟩, ⟨some 58, none, .mv (.t 57)⟩, ⟨some 59, some (58, false), .fa 32 (.t 6)⟩, ⟨some 60, some (58, false), .ld true 32 (.t 59)⟩, ⟨some 61, some (58, false), .fa 32 (.t 7)⟩, ⟨some 62, some (58, false), .ld true 32 (.t 61)⟩, ⟨some 63, some (58, false), .eq true (.agg (kk [(32, .i .u8)])) (.t 60) (.t 62)⟩, ⟨some 64, none, .pick (.t 58) (.k (.b true)) (.t 63)⟩, ⟨some 65, none, .mv (.t 64)⟩, ⟨some 66, some (65, false), .fa 64 (.t 6)⟩, ⟨some 67, some (65, false), .ld true 18 (.t 66)⟩, ⟨some 68, some (65, false), .fa 64 (.t 7)⟩, ⟨some 69, some (65, false), .ld true 18 (.t 68)⟩, ⟨some 70, some (65, false), .eq true (.agg (kk [(1, .i .i64), (16, .i .u8), (1, .i .i64)])) (.t 67) (.t 69)⟩, ⟨some 71, none, .pick (.t 65) (.k (.b true)) (.t 70)⟩, ⟨some 72, none, .mv (.t 71)⟩, ⟨some 73, some (72, false), .fa 82 (.t 6)⟩, ⟨some 74, some (72, false), .ld false 1 (.t 73)⟩, ⟨some 75, some (72, false), .fa 82 (.t 7)⟩, ⟨some 76, some (72, false), .ld false 1 (.t 75)⟩, ⟨some 77, some (72, false), .bin .neq (.t 74) (.t 76)⟩, ⟨some 78, none, .pick (.t 72) (.k (.b true)) (.t 77)⟩, ⟨some 79, none, .mv (.t 78)⟩, ⟨some 80, some (79, false), .fa 83 (.t 6)⟩, ⟨some 81, some (79, false), .ld false 1 (.t 80)⟩, ⟨some 82, some (79, false), .fa 83 (.t 7)⟩, ⟨some 83, some (79, false), .ld false 1 (.t 82)⟩, ⟨some 84, some (79, false), .call fn_r11_Same [(.t 81), (.t 83)]⟩, ⟨some 85, some (79, false), .un .not (.t 84)⟩, ⟨some 86, none, .pick (.t 79) (.k (.b true)) (.t 85)⟩])
   (.cond (.t 86)
    (.seq (rg false [⟨some 4, none, .mv (.k (.b false))⟩])
    .ret)
    .skip)))))
  (rg false [⟨some 41, none, .mv (.t 5)⟩, ⟨some 42, none, .bin .add (.t 41) (.k (.i .i64 1))⟩, ⟨some 5, none, .mv (.t 42)⟩])))
noncomputable def c_r43_Same : AFn := ⟨false, 2, 87, [.tmp 4],
  (.seq (rg false [⟨some 2, none, .box 56 35 (.t 0)⟩, ⟨some 3, none, .box 56 35 (.t 1)⟩, ⟨some 4, none, .mv (.k (.b false))⟩])
  (.seq (.seq (rg false [⟨some 8, none, .fa 0 (.t 2)⟩, ⟨some 9, none, .ld true 32 (.t 8)⟩, ⟨some 10, none, .fa 0 (.t 3)⟩, ⟨some 11, none, .ld true 32 (.t 10)⟩, ⟨some 12, none, .eq true (.agg (kk [(32, .i .u8)])) (.t 9) (.t 11)⟩, ⟨some 13, none, .mv (.t 12)⟩, ⟨some 14, some (13, false), .fa 32 (.t 2)⟩, ⟨some 15, some (13, false), .ld false 1 (.t 14)⟩, ⟨some 16, some (13, false), .fa 32 (.t 3)⟩, ⟨some 17, some (13, false), .ld false 1 (.t 16)⟩, ⟨some 18, some (13, false), .bin .neq (.t 15) (.t 17)⟩, ⟨some 19, none, .pick (.t 13) (.k (.b true)) (.t 18)⟩, ⟨some 20, none, .mv (.t 19)⟩, ⟨some 21, some (20, false), .fa 33 (.t 2)⟩, ⟨some 22, some (20, false), .ld false 1 (.t 21)⟩, ⟨some 23, some (20, false), .fa 33 (.t 3)⟩, ⟨some 24, some (20, false), .ld false 1 (.t 23)⟩, ⟨some 25, some (20, false), .bin .neq (.t 22) (.t 24)⟩, ⟨some 26, none, .pick (.t 20) (.k (.b true)) (.t 25)⟩, ⟨some 27, none, .mv (.t 26)⟩, ⟨some 28, some (27, false), .fa 34 (.t 2)⟩, ⟨some 29, some (27, false), .ld false 1 (.t 28)⟩, ⟨some 30, some (27, false), .len (.t 29)⟩, ⟨some 31, some (27, false), .fa 34 (.t 3)⟩, ⟨some 32, some (27, false), .ld false 1 (.t 31)⟩, ⟨some 33, some (27, false), .len (.t 32)⟩, ⟨some 34, some (27, false), .bin .neq (.t 30) (.t 33)⟩, ⟨some 35, none, .pick (.t 27) (.k (.b true)) (.t 34)⟩])
  (.cond (.t 35)
   (.seq (rg false [⟨some 4, none, .mv (.k (.b false))⟩])
   .ret)
   .skip))
  (.seq (.seq (rg false [⟨some 5, none, .mv (.k (.i .i64 0))⟩])
  (.blk 0
   (.loop [2, 3, 5] c_r43_Same_l0)))
  (.seq (rg false [⟨some 4, none, .mv (.k (.b true))⟩])
  .ret))))⟩
noncomputable def c_p_strings_Builder_WriteString : AFn := ⟨false, 2, 19, [.tmp 4, .tmp 5],
  (.seq (rg false [⟨some 4, none, .mv (.k (.i .i64 0))⟩, ⟨some 5, none, .mv (.k (.nili))⟩])
  (.seq (rg false [⟨some 6, none, .mv (.t 0)⟩, ⟨some 7, none, .call fn_p_strings_Builder_copyCheck [(.t 6)]⟩])
  (.seq (rg false [⟨some 8, none, .mv (.t 0)⟩, ⟨some 9, none, .mv (.t 0)⟩, ⟨some 10, none, .nilc (.t 9)⟩, ⟨some 11, none, .fa 1 (.t 10)⟩, ⟨some 12, none, .ld false 1 (.t 11)⟩, ⟨some 13, none, .mv (.t 1)⟩, ⟨some 14, none, .app 5 1 1 (.t 12) (.t 13)⟩, ⟨some 15, none, .nilc (.t 8)⟩, ⟨some 16, none, .fa 1 (.t 15)⟩, ⟨none, none, .st 1 (.t 16) (.t 14)⟩])
  (.seq (rg false [⟨some 17, none, .mv (.t 1)⟩, ⟨some 18, none, .lens (.t 17)⟩, ⟨some 4, none, .mv (.t 18)⟩, ⟨some 5, none, .mv (.k (.nili))⟩])
  .ret))))⟩
noncomputable def c_p_strings_Builder_String : AFn := ⟨false, 1, 14, [.tmp 2],
  (.seq (rg false [⟨some 2, none, .mv (.k (.s []))⟩])
  (.seq (.regd [⟨some 3, none, .mv (.t 0)⟩, ⟨some 4, none, .nilc (.t 3)⟩, ⟨some 5, none, .fa 1 (.t 4)⟩, ⟨some 6, none, .ld false 1 (.t 5)⟩, ⟨some 7, none, .usd (.t 6)⟩, ⟨some 8, none, .mv (.t 0)⟩, ⟨some 9, none, .nilc (.t 8)⟩, ⟨some 10, none, .fa 1 (.t 9)⟩, ⟨some 11, none, .ld false 1 (.t 10)⟩, ⟨some 12, none, .len (.t 11)⟩, ⟨some 13, none, .ust 5 (.t 7) (.t 12)⟩, ⟨some 2, none, .mv (.t 13)⟩] [some (0, 0), some (0, 0), some (0, 0), some (0, 0), some (0, 0), some (0, 0), some (0, 0), some (0, 0), some (0, 0), some (0, 0), none, some (1, 1)])
  .ret))⟩
noncomputable def c_iniwrite_Text : AFn := ⟨false, 1, 15, [.tmp 2, .tmp 3],
  (.seq (rg false [⟨some 1, none, .box 56 35 (.t 0)⟩, ⟨some 2, none, .mv (.k (.s []))⟩, ⟨some 3, none, .mv (.k (.i .i64 0))⟩])
  (.seq (.seq (rg false [⟨some 5, none, .ld true 35 (.t 1)⟩, ⟨some 6, none, .call fn_iniwrite_Right [(.t 5)]⟩, ⟨some 7, none, .un .not (.t 6)⟩])
  (.cond (.t 7)
   (.seq (rg false [⟨some 2, none, .mv (.k (.s []))⟩, ⟨some 3, none, .mv (.k (.i .i64 1))⟩])
   .ret)
   .skip))
  (.seq (rg false [⟨some 8, none, .ld true 35 (.t 1)⟩, ⟨some 9, none, .call fn_iniwrite_file [(.t 8)]⟩, ⟨some 4, none, .mv (.t 9)⟩])
  (.seq (.seq (rg false [⟨some 10, none, .mv (.t 4)⟩, ⟨some 11, none, .len (.t 10)⟩, ⟨some 12, none, .bin .gtr (.t 11) (.k (.i .i64 400))⟩])
  (.cond (.t 12)
   (.seq (rg false [⟨some 2, none, .mv (.k (.s []))⟩, ⟨some 3, none, .mv (.k (.i .i64 4))⟩])
   .ret)
   .skip))
  (.seq (rg false [⟨some 13, none, .mv (.t 4)⟩, ⟨some 14, none, .call fn_lines_Join [(.t 13)]⟩, ⟨some 2, none, .mv (.t 14)⟩, ⟨some 3, none, .mv (.k (.i .i64 0))⟩])
  .ret)))))⟩
noncomputable def c_slices_EqualFunc_api_IniPeer_api_IniPeer_l0 : AC :=
  (.seq (rg false [⟨some 18, none, .bin .lss (.t 17) (.t 16)⟩])
  (.seq (.cond (.t 18)
   .skip
   (.exit 0))
  (.seq (.blk 1
   (.seq (rg false [⟨some 19, none, .mv (.t 17)⟩, ⟨some 20, none, .ias 84 (.t 15) (.t 17)⟩, ⟨some 21, none, .ld true 84 (.t 20)⟩, ⟨some 8, none, .alloc 85 T_api_IniPeer.zc⟩, ⟨some 7, none, .mv (.t 19)⟩, ⟨none, none, .st 84 (.t 8) (.t 21)⟩])
   (.seq (rg false [⟨some 22, none, .mv (.t 1)⟩, ⟨some 23, none, .mv (.t 7)⟩, ⟨some 24, none, .ias 84 (.t 22) (.t 23)⟩, ⟨some 25, none, .ld true 84 (.t 24)⟩, ⟨some 9, none, .alloc 85 T_api_IniPeer.zc⟩, ⟨none, none, .st 84 (.t 9) (.t 25)⟩])
   (.seq (rg false [⟨some 26, none, .mv (.t 2)⟩, ⟨some 27, none, .ld true 84 (.t 8)⟩, ⟨some 28, none, .ld true 84 (.t 9)⟩, ⟨some 29, none, .callv (.t 26) [(.t 27), (.t 28)]⟩, ⟨some 30, none, .un .not (.t 29)⟩])
   (.cond (.t 30)
    (.seq (rg false [⟨some 6, none, .mv (.k (.b false))⟩])
    .ret)
    .skip)))))
  (rg false [⟨some 31, none, .bin .add (.t 17) (.k (.i .i64 1))⟩, ⟨some 17, none, .mv (.t 31)⟩]))))
noncomputable def c_slices_EqualFunc_api_IniPeer_api_IniPeer : AFn := ⟨true, 3, 32, [.tmp 6],
  (.seq (rg false [⟨some 6, none, .mv (.k (.b false))⟩])
  (.seq (.seq (rg false [⟨some 10, none, .mv (.t 0)⟩, ⟨some 11, none, .len (.t 10)⟩, ⟨some 12, none, .mv (.t 1)⟩, ⟨some 13, none, .len (.t 12)⟩, ⟨some 14, none, .bin .neq (.t 11) (.t 13)⟩])
  (.cond (.t 14)
   (.seq (rg false [⟨some 6, none, .mv (.k (.b false))⟩])
   .ret)
   .skip))
  (.seq (.seq (rg false [⟨some 15, none, .mv (.t 0)⟩, ⟨some 16, none, .len (.t 15)⟩, ⟨some 17, none, .mv (.k (.i .i64 0))⟩])
  (.blk 0
   (.loop [1, 2, 15, 16, 17] c_slices_EqualFunc_api_IniPeer_api_IniPeer_l0)))
  (.seq (rg false [⟨some 6, none, .mv (.k (.b true))⟩])
  .ret))))⟩
noncomputable def c_iniwrite_alike : AFn := ⟨false, 2, 38, [.tmp 4],
  (.seq (rg false [⟨some 2, none, .box 85 84 (.t 0)⟩, ⟨some 3, none, .box 85 84 (.t 1)⟩, ⟨some 4, none, .mv (.k (.b false))⟩])
  (.seq (rg false [⟨some 5, none, .fa 0 (.t 2)⟩, ⟨some 6, none, .ld true 32 (.t 5)⟩, ⟨some 7, none, .fa 0 (.t 3)⟩, ⟨some 8, none, .ld true 32 (.t 7)⟩, ⟨some 9, none, .eq false (.agg (kk [(32, .i .u8)])) (.t 6) (.t 8)⟩, ⟨some 10, none, .mv (.t 9)⟩, ⟨some 11, some (10, true), .fa 32 (.t 2)⟩, ⟨some 12, some (10, true), .ld true 32 (.t 11)⟩, ⟨some 13, some (10, true), .fa 32 (.t 3)⟩, ⟨some 14, some (10, true), .ld true 32 (.t 13)⟩, ⟨some 15, some (10, true), .eq false (.agg (kk [(32, .i .u8)])) (.t 12) (.t 14)⟩, ⟨some 16, none, .pick (.t 10) (.t 15) (.k (.b false))⟩, ⟨some 17, none, .mv (.t 16)⟩, ⟨some 18, some (17, true), .fa 64 (.t 2)⟩, ⟨some 19, some (17, true), .ld true 18 (.t 18)⟩, ⟨some 20, some (17, true), .fa 64 (.t 3)⟩, ⟨some 21, some (17, true), .ld true 18 (.t 20)⟩, ⟨some 22, some (17, true), .eq false (.agg (kk [(1, .i .i64), (16, .i .u8), (1, .i .i64)])) (.t 19) (.t 21)⟩, ⟨some 23, none, .pick (.t 17) (.t 22) (.k (.b false))⟩, ⟨some 24, none, .mv (.t 23)⟩, ⟨some 25, some (24, true), .fa 82 (.t 2)⟩, ⟨some 26, some (24, true), .ld false 1 (.t 25)⟩, ⟨some 27, some (24, true), .fa 82 (.t 3)⟩, ⟨some 28, some (24, true), .ld false 1 (.t 27)⟩, ⟨some 29, some (24, true), .bin .eql (.t 26) (.t 28)⟩, ⟨some 30, none, .pick (.t 24) (.t 29) (.k (.b false))⟩, ⟨some 31, none, .mv (.t 30)⟩, ⟨some 32, some (31, true), .fa 83 (.t 2)⟩, ⟨some 33, some (31, true), .ld false 1 (.t 32)⟩, ⟨some 34, some (31, true), .fa 83 (.t 3)⟩, ⟨some 35, some (31, true), .ld false 1 (.t 34)⟩, ⟨some 36, some (31, true), .call fn_slices_Equal_api_Prefix [(.t 33), (.t 35)]⟩, ⟨some 37, none, .pick (.t 31) (.t 36) (.k (.b false))⟩, ⟨some 4, none, .mv (.t 37)⟩])
  .ret))⟩
noncomputable def c_r11_Same_l0 : AC :=
  (.seq (.seq (rg false [⟨some 11, none, .mv (.t 5)⟩, ⟨some 12, none, .mv (.t 0)⟩, ⟨some 13, none, .len (.t 12)⟩, ⟨some 14, none, .bin .lss (.t 11) (.t 13)⟩])
  (.cond (.t 14)
   .skip
   (.exit 0)))
  (.seq (.blk 1
   (.seq (rg true [⟨some 17, none, .mv (.t 0)⟩, ⟨some 18, none, .mv (.t 5)⟩, ⟨some 19, none, .ias 18 (.t 17) (.t 18)⟩, ⟨some 20, none, .ld true 18 (.t 19)⟩, ⟨some 21, none, .mv (.t 1)⟩, ⟨some 22, none, .mv (.t 5)⟩, ⟨some 23, none, .ias 18 (.t 21) (.t 22)⟩, ⟨some 24, none, .ld true 18 (.t 23)⟩, ⟨some 25, none, .eq true (.agg (kk [(1, .i .i64), (16, .i .u8), (1, .i .i64)])) (.t 20) (.t 24)⟩])
   (.cond (.t 25)
    (.seq (rg false [⟨some 4, none, .mv (.k (.b false))⟩])
    .ret)
    .skip)))
  (rg false [⟨some 15, none, .mv (.t 5)⟩, ⟨some 16, none, .bin .add (.t 15) (.k (.i .i64 1))⟩, ⟨some 5, none, .mv (.t 16)⟩])))
noncomputable def c_r11_Same : AFn := ⟨false, 2, 26, [.tmp 4],
  (.seq (rg false [⟨some 4, none, .mv (.k (.b false))⟩])
  (.seq (.seq (rg false [⟨some 6, none, .mv (.t 0)⟩, ⟨some 7, none, .len (.t 6)⟩, ⟨some 8, none, .mv (.t 1)⟩, ⟨some 9, none, .len (.t 8)⟩, ⟨some 10, none, .bin .neq (.t 7) (.t 9)⟩])
  (.cond (.t 10)
   (.seq (rg false [⟨some 4, none, .mv (.k (.b false))⟩])
   .ret)
   .skip))
  (.seq (.seq (rg false [⟨some 5, none, .mv (.k (.i .i64 0))⟩])
  (.blk 0
   (.loop [0, 1, 5] c_r11_Same_l0)))
  (.seq (rg false [⟨some 4, none, .mv (.k (.b true))⟩])
  .ret))))⟩
noncomputable def c_p_strings_Builder_copyCheck : AFn := ⟨false, 1, 20, [],
  (.seq (rg false [⟨some 2, none, .mv (.t 0)⟩, ⟨some 3, none, .nilc (.t 2)⟩, ⟨some 4, none, .fa 0 (.t 3)⟩, ⟨some 5, none, .ld false 1 (.t 4)⟩, ⟨some 6, none, .eq false .p (.t 5) (.k (.nilp))⟩])
  (.cond (.t 6)
   (rg false [⟨some 7, none, .mv (.t 0)⟩, ⟨some 8, none, .mv (.t 0)⟩, ⟨some 9, none, .cvp (.t 8)⟩, ⟨some 10, none, .call fn_internal_abi_NoEscape [(.t 9)]⟩, ⟨some 11, none, .cvu 65 2 (.t 10)⟩, ⟨some 12, none, .nilc (.t 7)⟩, ⟨some 13, none, .fa 0 (.t 12)⟩, ⟨none, none, .st 1 (.t 13) (.t 11)⟩])
   (.seq (rg false [⟨some 14, none, .mv (.t 0)⟩, ⟨some 15, none, .nilc (.t 14)⟩, ⟨some 16, none, .fa 0 (.t 15)⟩, ⟨some 17, none, .ld false 1 (.t 16)⟩, ⟨some 18, none, .mv (.t 0)⟩, ⟨some 19, none, .eqp true (.t 17) (.t 18)⟩])
   (.cond (.t 19)
    .stop
    .skip))))⟩
noncomputable def c_iniwrite_Right : AFn := ⟨false, 1, 18, [.tmp 2],
  (.seq (rg false [⟨some 1, none, .box 56 35 (.t 0)⟩, ⟨some 2, none, .mv (.k (.b false))⟩])
  (.seq (rg false [⟨some 3, none, .fa 32 (.t 1)⟩, ⟨some 4, none, .ld false 1 (.t 3)⟩, ⟨some 5, none, .call fn_iniwrite_short [(.t 4)]⟩, ⟨some 6, none, .mv (.t 5)⟩, ⟨some 7, some (6, true), .fa 34 (.t 1)⟩, ⟨some 8, some (6, true), .ld false 1 (.t 7)⟩, ⟨some 9, some (6, true), .len (.t 8)⟩, ⟨some 10, some (6, true), .bin .leq (.t 9) (.k (.i .i64 64))⟩, ⟨some 11, none, .pick (.t 6) (.t 10) (.k (.b false))⟩, ⟨some 12, none, .mv (.t 11)⟩, ⟨some 13, some (12, true), .fa 34 (.t 1)⟩, ⟨some 14, some (12, true), .ld false 1 (.t 13)⟩, ⟨some 15, some (12, true), .call fn_slices_ContainsFunc_api_IniPeer [(.t 14), (.f fn_iniwrite_wrong)]⟩, ⟨some 16, some (12, true), .un .not (.t 15)⟩, ⟨some 17, none, .pick (.t 12) (.t 16) (.k (.b false))⟩, ⟨some 2, none, .mv (.t 17)⟩])
  .ret))⟩
noncomputable def c_iniwrite_file_l0 : AC :=
  (.seq (rg false [⟨some 88, none, .bin .lss (.t 87) (.t 86)⟩])
  (.seq (.cond (.t 88)
   .skip
   (.exit 2))
  (.seq (.blk 3
   (.seq (rg false [⟨some 89, none, .ias 18 (.t 85) (.t 87)⟩, ⟨some 90, none, .ld true 18 (.t 89)⟩, ⟨some 10, none, .alloc 97 T_api_Prefix.zc⟩, ⟨none, none, .st 18 (.t 10) (.t 90)⟩])
   (rg false [⟨some 91, none, .mv (.t 4)⟩, ⟨some 92, none, .mkf (.func fn_iniwrite_file_5) [] [(.t 10)]⟩, ⟨some 93, none, .callv (.t 91) [(.k (.b true)), (.k (.s [65, 108, 108, 111, 119, 101, 100, 73, 80, 115])), (.t 92)]⟩])))
  (rg false [⟨some 94, none, .bin .add (.t 87) (.k (.i .i64 1))⟩, ⟨some 87, none, .mv (.t 94)⟩]))))
noncomputable def c_iniwrite_file_l1 : AC :=
  (.seq (rg false [⟨some 46, none, .bin .lss (.t 45) (.t 44)⟩])
  (.seq (.cond (.t 46)
   .skip
   (.exit 0))
  (.seq (.blk 1
   (.seq (rg false [⟨some 47, none, .ias 84 (.t 43) (.t 45)⟩, ⟨some 48, none, .ld true 84 (.t 47)⟩, ⟨some 8, none, .alloc 85 T_api_IniPeer.zc⟩, ⟨none, none, .st 84 (.t 8) (.t 48)⟩])
   (.seq (rg false [⟨some 49, none, .ld false 1 (.t 3)⟩, ⟨some 50, none, .bll 1 (List.replicate 1 T.str.zc) [(0, (.k (.s [91, 80, 101, 101, 114, 93])))]⟩, ⟨some 51, none, .app 9 1 16 (.t 49) (.t 50)⟩, ⟨none, none, .st 1 (.t 3) (.t 51)⟩])
   (.seq (rg false [⟨some 52, none, .mv (.t 4)⟩, ⟨some 53, none, .mv (.t 6)⟩, ⟨some 54, none, .fa 0 (.t 8)⟩, ⟨some 55, none, .ld true 32 (.t 54)⟩, ⟨some 56, none, .callv (.t 53) [(.t 55)]⟩, ⟨some 57, none, .callv (.t 52) [(.k (.b true)), (.k (.s [80, 117, 98, 108, 105, 99, 75, 101, 121])), (.t 56)]⟩])
   (.seq (.regd [⟨some 58, none, .mv (.t 4)⟩, ⟨some 59, none, .fa 32 (.t 8)⟩, ⟨some 60, none, .ld true 32 (.t 59)⟩, ⟨some 61, none, .call fn_keys_Zero [(.t 60)]⟩, ⟨some 62, none, .un .not (.t 61)⟩, ⟨some 63, none, .mv (.t 6)⟩, ⟨some 64, none, .fa 32 (.t 8)⟩, ⟨some 65, none, .ld true 32 (.t 64)⟩, ⟨some 66, none, .callv (.t 63) [(.t 65)]⟩, ⟨some 67, none, .callv (.t 58) [(.t 62), (.k (.s [80, 114, 101, 115, 104, 97, 114, 101, 100, 75, 101, 121])), (.t 66)]⟩] [some (0, 1), some (0, 0), some (0, 0), some (0, 0), some (0, 1), some (0, 0), some (0, 0), some (0, 0), none, none])
   (.seq (rg false [⟨some 68, none, .mv (.t 4)⟩, ⟨some 69, none, .fa 64 (.t 8)⟩, ⟨some 70, none, .ld true 18 (.t 69)⟩, ⟨some 71, none, .call fn_hostport_None [(.t 70)]⟩, ⟨some 72, none, .un .not (.t 71)⟩, ⟨some 73, none, .mkf (.func fn_iniwrite_file_4) [] [(.t 8)]⟩, ⟨some 74, none, .callv (.t 68) [(.t 72), (.k (.s [69, 110, 100, 112, 111, 105, 110, 116])), (.t 73)]⟩])
   (.seq (.regd [⟨some 75, none, .mv (.t 4)⟩, ⟨some 76, none, .fa 82 (.t 8)⟩, ⟨some 77, none, .ld false 1 (.t 76)⟩, ⟨some 78, none, .bin .neq (.t 77) (.k (.i .i64 0))⟩, ⟨some 79, none, .mv (.t 5)⟩, ⟨some 80, none, .fa 82 (.t 8)⟩, ⟨some 81, none, .ld false 1 (.t 80)⟩, ⟨some 82, none, .callv (.t 79) [(.t 81)]⟩, ⟨some 83, none, .callv (.t 75) [(.t 78), (.k (.s [80, 101, 114, 115, 105, 115, 116, 101, 110, 116, 75, 101, 101, 112, 97, 108, 105, 118, 101])), (.t 82)]⟩] [some (0, 1), some (0, 1), some (0, 1), some (0, 1), some (0, 0), some (0, 0), some (0, 0), none, none])
   (.seq (rg false [⟨some 84, none, .fa 83 (.t 8)⟩, ⟨some 85, none, .ld false 1 (.t 84)⟩, ⟨some 86, none, .len (.t 85)⟩, ⟨some 87, none, .mv (.k (.i .i64 0))⟩])
   (.blk 2
    (.loop [3, 4, 5, 6, 43, 44, 45, 85, 86, 87] c_iniwrite_file_l0))))))))))
  (rg false [⟨some 95, none, .bin .add (.t 45) (.k (.i .i64 1))⟩, ⟨some 45, none, .mv (.t 95)⟩]))))
noncomputable def c_iniwrite_file : AFn := ⟨false, 1, 97, [.tmp 2],
  (.seq (rg false [⟨some 1, none, .box 56 35 (.t 0)⟩, ⟨some 2, none, .mv (.k (.nils))⟩])
  (.seq (rg false [⟨some 11, none, .bls 9 1 (List.replicate 1 T.str.zc) [(0, (.k (.s [91, 73, 110, 116, 101, 114, 102, 97, 99, 101, 93])))]⟩, ⟨some 3, none, .alloc 23 (T.sl T.str).zc⟩, ⟨none, none, .st 1 (.t 3) (.t 11)⟩])
  (.seq (rg false [⟨some 12, none, .mkf (.func fn_iniwrite_file_1) [] [(.t 3)]⟩, ⟨some 4, none, .mv (.t 12)⟩])
  (.seq (rg false [⟨some 5, none, .mv (.f fn_iniwrite_file_2)⟩])
  (.seq (rg false [⟨some 6, none, .mv (.f fn_iniwrite_file_3)⟩])
  (.seq (.regd [⟨some 13, none, .mv (.t 4)⟩, ⟨some 14, none, .fa 0 (.t 1)⟩, ⟨some 15, none, .ld true 32 (.t 14)⟩, ⟨some 16, none, .call fn_keys_Zero [(.t 15)]⟩, ⟨some 17, none, .un .not (.t 16)⟩, ⟨some 18, none, .mv (.t 6)⟩, ⟨some 19, none, .fa 0 (.t 1)⟩, ⟨some 20, none, .ld true 32 (.t 19)⟩, ⟨some 21, none, .callv (.t 18) [(.t 20)]⟩, ⟨some 22, none, .callv (.t 13) [(.t 17), (.k (.s [80, 114, 105, 118, 97, 116, 101, 75, 101, 121])), (.t 21)]⟩] [some (0, 1), some (0, 0), some (0, 0), some (0, 0), some (0, 1), some (0, 0), some (0, 0), some (0, 0), none, none])
  (.seq (.regd [⟨some 23, none, .mv (.t 4)⟩, ⟨some 24, none, .fa 32 (.t 1)⟩, ⟨some 25, none, .ld false 1 (.t 24)⟩, ⟨some 26, none, .bin .neq (.t 25) (.k (.i .i64 0))⟩, ⟨some 27, none, .mv (.t 5)⟩, ⟨some 28, none, .fa 32 (.t 1)⟩, ⟨some 29, none, .ld false 1 (.t 28)⟩, ⟨some 30, none, .callv (.t 27) [(.t 29)]⟩, ⟨some 31, none, .callv (.t 23) [(.t 26), (.k (.s [76, 105, 115, 116, 101, 110, 80, 111, 114, 116])), (.t 30)]⟩] [some (0, 1), some (0, 1), some (0, 1), some (0, 1), some (0, 0), some (0, 0), some (0, 0), none, none])
  (.seq (.regd [⟨some 32, none, .mv (.t 4)⟩, ⟨some 33, none, .fa 33 (.t 1)⟩, ⟨some 34, none, .ld false 1 (.t 33)⟩, ⟨some 35, none, .bin .neq (.t 34) (.k (.i .u32 0))⟩, ⟨some 36, none, .mv (.t 5)⟩, ⟨some 37, none, .fa 33 (.t 1)⟩, ⟨some 38, none, .ld false 1 (.t 37)⟩, ⟨some 39, none, .cvi .i64 (.t 38)⟩, ⟨some 40, none, .callv (.t 36) [(.t 39)]⟩, ⟨some 41, none, .callv (.t 32) [(.t 35), (.k (.s [70, 119, 77, 97, 114, 107])), (.t 40)]⟩] [some (0, 1), some (0, 1), some (0, 1), some (0, 1), some (0, 0), some (0, 0), some (0, 0), some (0, 0), none, none])
  (.seq (.seq (rg false [⟨some 42, none, .fa 34 (.t 1)⟩, ⟨some 43, none, .ld false 1 (.t 42)⟩, ⟨some 44, none, .len (.t 43)⟩, ⟨some 45, none, .mv (.k (.i .i64 0))⟩])
  (.blk 0
   (.loop [3, 4, 5, 6, 43, 44, 45] c_iniwrite_file_l1)))
  (.seq (rg false [⟨some 96, none, .ld false 1 (.t 3)⟩, ⟨some 2, none, .mv (.t 96)⟩])
  .ret))))))))))⟩
noncomputable def c_slices_Equal_api_Prefix_l0 : AC :=
  (.seq (rg false [⟨some 14, none, .bin .lss (.t 13) (.t 12)⟩])
  (.seq (.cond (.t 14)
   .skip
   (.exit 0))
  (.seq (.blk 1
   (.seq (rg false [⟨some 15, none, .mv (.t 13)⟩, ⟨some 5, none, .mv (.t 15)⟩])
   (.seq (rg true [⟨some 16, none, .mv (.t 0)⟩, ⟨some 17, none, .mv (.t 5)⟩, ⟨some 18, none, .ias 18 (.t 16) (.t 17)⟩, ⟨some 19, none, .ld true 18 (.t 18)⟩, ⟨some 20, none, .mv (.t 1)⟩, ⟨some 21, none, .mv (.t 5)⟩, ⟨some 22, none, .ias 18 (.t 20) (.t 21)⟩, ⟨some 23, none, .ld true 18 (.t 22)⟩, ⟨some 24, none, .eq true (.agg (kk [(1, .i .i64), (16, .i .u8), (1, .i .i64)])) (.t 19) (.t 23)⟩])
   (.cond (.t 24)
    (.seq (rg false [⟨some 4, none, .mv (.k (.b false))⟩])
    .ret)
    .skip))))
  (rg false [⟨some 25, none, .bin .add (.t 13) (.k (.i .i64 1))⟩, ⟨some 13, none, .mv (.t 25)⟩]))))
noncomputable def c_slices_Equal_api_Prefix : AFn := ⟨false, 2, 26, [.tmp 4],
  (.seq (rg false [⟨some 4, none, .mv (.k (.b false))⟩])
  (.seq (.seq (rg false [⟨some 6, none, .mv (.t 0)⟩, ⟨some 7, none, .len (.t 6)⟩, ⟨some 8, none, .mv (.t 1)⟩, ⟨some 9, none, .len (.t 8)⟩, ⟨some 10, none, .bin .neq (.t 7) (.t 9)⟩])
  (.cond (.t 10)
   (.seq (rg false [⟨some 4, none, .mv (.k (.b false))⟩])
   .ret)
   .skip))
  (.seq (.seq (rg false [⟨some 11, none, .mv (.t 0)⟩, ⟨some 12, none, .len (.t 11)⟩, ⟨some 13, none, .mv (.k (.i .i64 0))⟩])
  (.blk 0
   (.loop [0, 1, 12, 13] c_slices_Equal_api_Prefix_l0)))
  (.seq (rg false [⟨some 4, none, .mv (.k (.b true))⟩])
  .ret))))⟩
noncomputable def c_iniwrite_short : AFn := ⟨false, 1, 9, [.tmp 2],
  (.seq (rg false [⟨some 2, none, .mv (.k (.b false))⟩])
  (.seq (rg false [⟨some 3, none, .mv (.t 0)⟩, ⟨some 4, none, .bin .geq (.t 3) (.k (.i .i64 0))⟩, ⟨some 5, none, .mv (.t 4)⟩, ⟨some 6, some (5, true), .mv (.t 0)⟩, ⟨some 7, some (5, true), .bin .leq (.t 6) (.k (.i .i64 65535))⟩, ⟨some 8, none, .pick (.t 5) (.t 7) (.k (.b false))⟩, ⟨some 2, none, .mv (.t 8)⟩])
  .ret))⟩
noncomputable def c_slices_ContainsFunc_api_IniPeer : AFn := ⟨true, 2, 9, [.tmp 4],
  (.seq (rg false [⟨some 4, none, .mv (.k (.b false))⟩])
  (.seq (rg false [⟨some 5, none, .mv (.t 0)⟩, ⟨some 6, none, .mv (.t 1)⟩, ⟨some 7, none, .call fn_slices_IndexFunc_api_IniPeer [(.t 5), (.t 6)]⟩, ⟨some 8, none, .bin .geq (.t 7) (.k (.i .i64 0))⟩, ⟨some 4, none, .mv (.t 8)⟩])
  .ret))⟩
noncomputable def c_iniwrite_wrong : AFn := ⟨false, 1, 33, [.tmp 2],
  (.seq (rg false [⟨some 1, none, .box 85 84 (.t 0)⟩, ⟨some 2, none, .mv (.k (.b false))⟩])
  (.seq (.seq (rg false [⟨some 3, none, .fa 0 (.t 1)⟩, ⟨some 4, none, .ld true 32 (.t 3)⟩, ⟨some 5, none, .call fn_keys_Zero [(.t 4)]⟩, ⟨some 6, none, .mv (.t 5)⟩, ⟨some 7, some (6, false), .fa 82 (.t 1)⟩, ⟨some 8, some (6, false), .ld false 1 (.t 7)⟩, ⟨some 9, some (6, false), .call fn_iniwrite_short [(.t 8)]⟩, ⟨some 10, some (6, false), .un .not (.t 9)⟩, ⟨some 11, none, .pick (.t 6) (.k (.b true)) (.t 10)⟩, ⟨some 12, none, .mv (.t 11)⟩, ⟨some 13, some (12, false), .fa 83 (.t 1)⟩, ⟨some 14, some (12, false), .ld false 1 (.t 13)⟩, ⟨some 15, some (12, false), .len (.t 14)⟩, ⟨some 16, some (12, false), .bin .gtr (.t 15) (.k (.i .i64 64))⟩, ⟨some 17, none, .pick (.t 12) (.k (.b true)) (.t 16)⟩])
  (.cond (.t 17)
   (.seq (rg false [⟨some 2, none, .mv (.k (.b true))⟩])
   .ret)
   .skip))
  (.seq (rg false [⟨some 18, none, .fa 64 (.t 1)⟩, ⟨some 19, none, .ld true 18 (.t 18)⟩, ⟨some 20, none, .call fn_hostport_None [(.t 19)]⟩, ⟨some 21, none, .un .not (.t 20)⟩, ⟨some 22, none, .mv (.t 21)⟩, ⟨some 23, some (22, true), .fa 64 (.t 1)⟩, ⟨some 24, some (22, true), .ld true 18 (.t 23)⟩, ⟨some 25, some (22, true), .call fn_hostport_Right [(.t 24)]⟩, ⟨some 26, some (22, true), .un .not (.t 25)⟩, ⟨some 27, none, .pick (.t 22) (.t 26) (.k (.b false))⟩, ⟨some 28, none, .mv (.t 27)⟩, ⟨some 29, some (28, false), .fa 83 (.t 1)⟩, ⟨some 30, some (28, false), .ld false 1 (.t 29)⟩, ⟨some 31, some (28, false), .call fn_slices_ContainsFunc_api_Prefix [(.t 30), (.f fn_iniwrite_wrong_1)]⟩, ⟨some 32, none, .pick (.t 28) (.k (.b true)) (.t 31)⟩, ⟨some 2, none, .mv (.t 32)⟩])
  .ret)))⟩
noncomputable def c_iniwrite_file_1 : AFn := ⟨true, 4, 16, [],
  (.seq (rg false [⟨some 7, none, .mv (.t 0)⟩])
  (.cond (.t 7)
   (.regd [⟨some 8, none, .ld false 1 (.t 3)⟩, ⟨some 9, none, .mv (.t 1)⟩, ⟨some 10, none, .bin .add (.t 9) (.k (.s [32, 61, 32]))⟩, ⟨some 11, none, .mv (.t 2)⟩, ⟨some 12, none, .callv (.t 11) []⟩, ⟨some 13, none, .bin .add (.t 10) (.t 12)⟩, ⟨some 14, none, .bll 1 (List.replicate 1 T.str.zc) [(0, (.t 13))]⟩, ⟨some 15, none, .app 9 1 16 (.t 8) (.t 14)⟩, ⟨none, none, .st 1 (.t 3) (.t 15)⟩] [some (0, 1), some (0, 1), some (0, 1), some (0, 0), none, some (1, 1), some (1, 1), none, none])
   .skip))⟩
noncomputable def c_iniwrite_file_2 : AFn := ⟨true, 1, 4, [.tmp 2],
  (.seq (rg false [⟨some 1, none, .box 3 1 (.t 0)⟩, ⟨some 2, none, .mv (.k (.nilf))⟩])
  (.seq (rg false [⟨some 3, none, .mkf (.func fn_iniwrite_file_2_1) [] [(.t 1)]⟩, ⟨some 2, none, .mv (.t 3)⟩])
  .ret))⟩
noncomputable def c_iniwrite_file_2_1 : AFn := ⟨true, 1, 5, [.tmp 1],
  (.seq (rg false [⟨some 1, none, .mv (.k (.s []))⟩])
  (.seq (rg false [⟨some 2, none, .ld false 1 (.t 0)⟩, ⟨some 3, none, .cvi .u64 (.t 2)⟩, ⟨some 4, none, .call fn_decimal_Text [(.t 3)]⟩, ⟨some 1, none, .mv (.t 4)⟩])
  .ret))⟩
noncomputable def c_decimal_Text : AFn := ⟨false, 1, 5, [.tmp 2],
  (.seq (rg false [⟨some 2, none, .mv (.k (.s []))⟩])
  (.seq (rg false [⟨some 3, none, .mv (.t 0)⟩, ⟨some 4, none, .call fn_strconv_FormatUint [(.t 3), (.k (.i .i64 10))]⟩, ⟨some 2, none, .mv (.t 4)⟩])
  .ret))⟩
noncomputable def c_iniwrite_file_3 : AFn := ⟨true, 1, 4, [.tmp 2],
  (.seq (rg false [⟨some 1, none, .box 52 32 (.t 0)⟩, ⟨some 2, none, .mv (.k (.nilf))⟩])
  (.seq (rg false [⟨some 3, none, .mkf (.func fn_iniwrite_file_3_1) [] [(.t 1)]⟩, ⟨some 2, none, .mv (.t 3)⟩])
  .ret))⟩
noncomputable def c_iniwrite_file_3_1 : AFn := ⟨true, 1, 4, [.tmp 1],
  (.seq (rg false [⟨some 1, none, .mv (.k (.s []))⟩])
  (.seq (rg false [⟨some 2, none, .ld true 32 (.t 0)⟩, ⟨some 3, none, .call fn_keys_Text [(.t 2)]⟩, ⟨some 1, none, .mv (.t 3)⟩])
  .ret))⟩
noncomputable def c_keys_Text : AFn := ⟨false, 1, 5, [.tmp 2],
  (.seq (rg false [⟨some 1, none, .box 52 32 (.t 0)⟩, ⟨some 2, none, .mv (.k (.s []))⟩])
  (.seq (rg false [⟨some 3, none, .sla 32 1 (.t 1) none none⟩, ⟨some 4, none, .call fn_sixtyfour_Encode [(.t 3)]⟩, ⟨some 2, none, .mv (.t 4)⟩])
  .ret))⟩
noncomputable def c_keys_Zero : AFn := ⟨false, 1, 6, [.tmp 2],
  (.seq (rg false [⟨some 1, none, .box 52 32 (.t 0)⟩, ⟨some 2, none, .mv (.k (.b false))⟩])
  (.seq (rg false [⟨some 3, none, .ld true 32 (.t 1)⟩, ⟨some 4, none, .bld (T.arr 32 T.u8).zc []⟩, ⟨some 5, none, .eq false (.agg (kk [(32, .i .u8)])) (.t 3) (.t 4)⟩, ⟨some 2, none, .mv (.t 5)⟩])
  .ret))⟩
noncomputable def c_hostport_None : AFn := ⟨false, 1, 6, [.tmp 2],
  (.seq (rg false [⟨some 1, none, .box 82 18 (.t 0)⟩, ⟨some 2, none, .mv (.k (.b false))⟩])
  (.seq (rg false [⟨some 3, none, .ld true 18 (.t 1)⟩, ⟨some 4, none, .bld T_api_Endpoint.zc []⟩, ⟨some 5, none, .eq false (.agg (kk [(1, .i .i64), (16, .i .u8), (1, .i .i64)])) (.t 3) (.t 4)⟩, ⟨some 2, none, .mv (.t 5)⟩])
  .ret))⟩
noncomputable def c_iniwrite_file_4 : AFn := ⟨true, 1, 5, [.tmp 1],
  (.seq (rg false [⟨some 1, none, .mv (.k (.s []))⟩])
  (.seq (rg false [⟨some 2, none, .fa 64 (.t 0)⟩, ⟨some 3, none, .ld true 18 (.t 2)⟩, ⟨some 4, none, .call fn_hostport_Text [(.t 3)]⟩, ⟨some 1, none, .mv (.t 4)⟩])
  .ret))⟩
noncomputable def c_hostport_Text : AFn := ⟨false, 1, 28, [.tmp 2],
  (.seq (rg false [⟨some 1, none, .box 82 18 (.t 0)⟩, ⟨some 2, none, .mv (.k (.s []))⟩])
  (.seq (.seq (rg false [⟨some 4, none, .ld true 18 (.t 1)⟩, ⟨some 5, none, .call fn_hostport_Right [(.t 4)]⟩, ⟨some 6, none, .un .not (.t 5)⟩])
  (.cond (.t 6)
   (.seq (rg false [⟨some 2, none, .mv (.k (.s []))⟩])
   .ret)
   .skip))
  (.seq (rg false [⟨some 7, none, .fa 17 (.t 1)⟩, ⟨some 8, none, .ld false 1 (.t 7)⟩, ⟨some 9, none, .cvi .u64 (.t 8)⟩, ⟨some 10, none, .call fn_decimal_Text [(.t 9)]⟩, ⟨some 3, none, .mv (.t 10)⟩])
  (.seq (.seq (rg false [⟨some 11, none, .fa 0 (.t 1)⟩, ⟨some 12, none, .ld true 17 (.t 11)⟩, ⟨some 13, none, .call fn_addr_Width [(.t 12)]⟩, ⟨some 14, none, .bin .gtr (.t 13) (.k (.i .i64 32))⟩])
  (.cond (.t 14)
   (.seq (rg false [⟨some 15, none, .fa 0 (.t 1)⟩, ⟨some 16, none, .ld true 17 (.t 15)⟩, ⟨some 17, none, .call fn_addr_Text [(.t 16)]⟩, ⟨some 18, none, .bin .add (.k (.s [91])) (.t 17)⟩, ⟨some 19, none, .bin .add (.t 18) (.k (.s [93, 58]))⟩, ⟨some 20, none, .mv (.t 3)⟩, ⟨some 21, none, .bin .add (.t 19) (.t 20)⟩, ⟨some 2, none, .mv (.t 21)⟩])
   .ret)
   .skip))
  (.seq (rg false [⟨some 22, none, .fa 0 (.t 1)⟩, ⟨some 23, none, .ld true 17 (.t 22)⟩, ⟨some 24, none, .call fn_addr_Text [(.t 23)]⟩, ⟨some 25, none, .bin .add (.t 24) (.k (.s [58]))⟩, ⟨some 26, none, .mv (.t 3)⟩, ⟨some 27, none, .bin .add (.t 25) (.t 26)⟩, ⟨some 2, none, .mv (.t 27)⟩])
  .ret)))))⟩
noncomputable def c_iniwrite_file_5 : AFn := ⟨true, 1, 4, [.tmp 1],
  (.seq (rg false [⟨some 1, none, .mv (.k (.s []))⟩])
  (.seq (rg false [⟨some 2, none, .ld true 18 (.t 0)⟩, ⟨some 3, none, .call fn_cidr_Text [(.t 2)]⟩, ⟨some 1, none, .mv (.t 3)⟩])
  .ret))⟩
noncomputable def c_cidr_Text : AFn := ⟨false, 1, 15, [.tmp 2],
  (.seq (rg false [⟨some 1, none, .box 97 18 (.t 0)⟩, ⟨some 2, none, .mv (.k (.s []))⟩])
  (.seq (.seq (rg false [⟨some 3, none, .ld true 18 (.t 1)⟩, ⟨some 4, none, .call fn_cidr_Right [(.t 3)]⟩, ⟨some 5, none, .un .not (.t 4)⟩])
  (.cond (.t 5)
   (.seq (rg false [⟨some 2, none, .mv (.k (.s []))⟩])
   .ret)
   .skip))
  (.seq (rg true [⟨some 6, none, .fa 0 (.t 1)⟩, ⟨some 7, none, .ld true 17 (.t 6)⟩, ⟨some 8, none, .call fn_addr_Text [(.t 7)]⟩, ⟨some 9, none, .bin .add (.t 8) (.k (.s [47]))⟩, ⟨some 10, none, .fa 17 (.t 1)⟩, ⟨some 11, none, .ld false 1 (.t 10)⟩, ⟨some 12, none, .cvi .u64 (.t 11)⟩, ⟨some 13, none, .call fn_decimal_Text [(.t 12)]⟩, ⟨some 14, none, .bin .add (.t 9) (.t 13)⟩, ⟨some 2, none, .mv (.t 14)⟩])
  .ret)))⟩
noncomputable def c_slices_IndexFunc_api_IniPeer_l0 : AC :=
  (.seq (rg false [⟨some 9, none, .bin .lss (.t 8) (.t 7)⟩])
  (.seq (.cond (.t 9)
   .skip
   (.exit 0))
  (.seq (.blk 1
   (.seq (rg false [⟨some 10, none, .mv (.t 8)⟩, ⟨some 5, none, .mv (.t 10)⟩])
   (.seq (rg false [⟨some 11, none, .mv (.t 1)⟩, ⟨some 12, none, .mv (.t 0)⟩, ⟨some 13, none, .mv (.t 5)⟩, ⟨some 14, none, .ias 84 (.t 12) (.t 13)⟩, ⟨some 15, none, .ld true 84 (.t 14)⟩, ⟨some 16, none, .callv (.t 11) [(.t 15)]⟩])
   (.cond (.t 16)
    (.seq (rg false [⟨some 17, none, .mv (.t 5)⟩, ⟨some 4, none, .mv (.t 17)⟩])
    .ret)
    .skip))))
  (rg false [⟨some 18, none, .bin .add (.t 8) (.k (.i .i64 1))⟩, ⟨some 8, none, .mv (.t 18)⟩]))))
noncomputable def c_slices_IndexFunc_api_IniPeer : AFn := ⟨true, 2, 19, [.tmp 4],
  (.seq (rg false [⟨some 4, none, .mv (.k (.i .i64 0))⟩])
  (.seq (.seq (rg false [⟨some 6, none, .mv (.t 0)⟩, ⟨some 7, none, .len (.t 6)⟩, ⟨some 8, none, .mv (.k (.i .i64 0))⟩])
  (.blk 0
   (.loop [0, 1, 7, 8] c_slices_IndexFunc_api_IniPeer_l0)))
  (.seq (rg false [⟨some 4, none, .mv (.k (.i .i64 (-1)))⟩])
  .ret)))⟩
noncomputable def c_hostport_Right : AFn := ⟨false, 1, 16, [.tmp 2],
  (.seq (rg false [⟨some 1, none, .box 82 18 (.t 0)⟩, ⟨some 2, none, .mv (.k (.b false))⟩])
  (.seq (rg false [⟨some 3, none, .fa 0 (.t 1)⟩, ⟨some 4, none, .ld true 17 (.t 3)⟩, ⟨some 5, none, .call fn_addr_Right [(.t 4)]⟩, ⟨some 6, none, .mv (.t 5)⟩, ⟨some 7, some (6, true), .fa 17 (.t 1)⟩, ⟨some 8, some (6, true), .ld false 1 (.t 7)⟩, ⟨some 9, some (6, true), .bin .geq (.t 8) (.k (.i .i64 1))⟩, ⟨some 10, none, .pick (.t 6) (.t 9) (.k (.b false))⟩, ⟨some 11, none, .mv (.t 10)⟩, ⟨some 12, some (11, true), .fa 17 (.t 1)⟩, ⟨some 13, some (11, true), .ld false 1 (.t 12)⟩, ⟨some 14, some (11, true), .bin .leq (.t 13) (.k (.i .i64 65535))⟩, ⟨some 15, none, .pick (.t 11) (.t 14) (.k (.b false))⟩, ⟨some 2, none, .mv (.t 15)⟩])
  .ret))⟩
noncomputable def c_slices_ContainsFunc_api_Prefix : AFn := ⟨true, 2, 9, [.tmp 4],
  (.seq (rg false [⟨some 4, none, .mv (.k (.b false))⟩])
  (.seq (rg false [⟨some 5, none, .mv (.t 0)⟩, ⟨some 6, none, .mv (.t 1)⟩, ⟨some 7, none, .call fn_slices_IndexFunc_api_Prefix [(.t 5), (.t 6)]⟩, ⟨some 8, none, .bin .geq (.t 7) (.k (.i .i64 0))⟩, ⟨some 4, none, .mv (.t 8)⟩])
  .ret))⟩
noncomputable def c_iniwrite_wrong_1 : AFn := ⟨false, 1, 6, [.tmp 2],
  (.seq (rg false [⟨some 1, none, .box 97 18 (.t 0)⟩, ⟨some 2, none, .mv (.k (.b false))⟩])
  (.seq (rg false [⟨some 3, none, .ld true 18 (.t 1)⟩, ⟨some 4, none, .call fn_cidr_Right [(.t 3)]⟩, ⟨some 5, none, .un .not (.t 4)⟩, ⟨some 2, none, .mv (.t 5)⟩])
  .ret))⟩
noncomputable def c_cidr_Right : AFn := ⟨false, 1, 20, [.tmp 2],
  (.seq (rg false [⟨some 1, none, .box 97 18 (.t 0)⟩, ⟨some 2, none, .mv (.k (.b false))⟩])
  (.seq (rg false [⟨some 6, none, .fa 0 (.t 1)⟩, ⟨some 7, none, .ld true 17 (.t 6)⟩, ⟨some 8, none, .fa 17 (.t 1)⟩, ⟨some 9, none, .ld false 1 (.t 8)⟩, ⟨some 10, none, .call fn_cidr_Of [(.t 7), (.t 9)]⟩, ⟨some 5, none, .mv (.t 10)⟩, ⟨some 11, none, .ext (.t 5) 0⟩, ⟨some 12, none, .ext (.t 5) 1⟩, ⟨some 3, none, .alloc 97 T_api_Prefix.zc⟩, ⟨none, none, .st 18 (.t 3) (.t 11)⟩, ⟨some 4, none, .mv (.t 12)⟩])
  (.seq (rg false [⟨some 13, none, .mv (.t 4)⟩, ⟨some 14, none, .bin .eql (.t 13) (.k (.i .i64 0))⟩, ⟨some 15, none, .mv (.t 14)⟩, ⟨some 16, some (15, true), .ld true 18 (.t 3)⟩, ⟨some 17, some (15, true), .ld true 18 (.t 1)⟩, ⟨some 18, some (15, true), .eq false (.agg (kk [(1, .i .i64), (16, .i .u8), (1, .i .i64)])) (.t 16) (.t 17)⟩, ⟨some 19, none, .pick (.t 15) (.t 18) (.k (.b false))⟩, ⟨some 2, none, .mv (.t 19)⟩])
  .ret)))⟩
noncomputable def c_strconv_FormatUint : AFn := ⟨false, 2, 8, [.tmp 4],
  (.seq (rg false [⟨some 4, none, .mv (.k (.s []))⟩])
  (.seq (rg false [⟨some 5, none, .mv (.t 0)⟩, ⟨some 6, none, .mv (.t 1)⟩, ⟨some 7, none, .call fn_internal_strconv_FormatUint [(.t 5), (.t 6)]⟩, ⟨some 4, none, .mv (.t 7)⟩])
  .ret))⟩
noncomputable def c_sixtyfour_Encode_l0 : AC :=
  (.seq (rg false [⟨some 15, none, .bin .lss (.t 14) (.k (.i .i64 3))⟩])
  (.seq (.cond (.t 15)
   .skip
   (.exit 2))
  (.seq (.blk 3
   (.seq (rg false [⟨some 16, none, .mv (.t 14)⟩, ⟨some 6, none, .mv (.t 16)⟩])
   (.seq (rg false [⟨some 17, none, .mv (.t 5)⟩, ⟨some 18, none, .bin .shl (.t 17) (.k (.i .u64 8))⟩, ⟨some 5, none, .mv (.t 18)⟩])
   (.seq (rg false [⟨some 19, none, .mv (.t 6)⟩, ⟨some 20, none, .mv (.t 4)⟩, ⟨some 21, none, .bin .lss (.t 19) (.t 20)⟩])
   (.cond (.t 21)
    (rg false [⟨some 22, none, .mv (.t 5)⟩, ⟨some 23, none, .mv (.t 0)⟩, ⟨some 24, none, .mv (.t 6)⟩, ⟨some 25, none, .ias 1 (.t 23) (.t 24)⟩, ⟨some 26, none, .ld false 1 (.t 25)⟩, ⟨some 27, none, .cvi .u32 (.t 26)⟩, ⟨some 28, none, .bin .or (.t 22) (.t 27)⟩, ⟨some 5, none, .mv (.t 28)⟩])
    .skip)))))
  (rg false [⟨some 29, none, .bin .add (.t 14) (.k (.i .i64 1))⟩, ⟨some 14, none, .mv (.t 29)⟩]))))
noncomputable def c_sixtyfour_Encode_l1 : AC :=
  (.seq (rg false [⟨some 33, none, .bin .lss (.t 32) (.t 31)⟩])
  (.seq (.cond (.t 33)
   .skip
   (.exit 4))
  (.seq (.blk 5
   (.seq (rg false [⟨some 34, none, .mv (.t 32)⟩, ⟨some 7, none, .mv (.t 34)⟩])
   (rg false [⟨some 35, none, .mv (.t 5)⟩, ⟨some 36, none, .mv (.t 7)⟩, ⟨some 37, none, .bin .mul (.k (.i .i64 6)) (.t 36)⟩, ⟨some 38, none, .bin .sub (.k (.i .i64 18)) (.t 37)⟩, ⟨some 39, none, .cvi .u64 (.t 38)⟩, ⟨some 40, none, .bin .shr (.t 35) (.t 39)⟩, ⟨some 41, none, .bin .and (.t 40) (.k (.i .u32 63))⟩, ⟨some 42, none, .ixs (.k (.s [65, 66, 67, 68, 69, 70, 71, 72, 73, 74, 75, 76, 77, 78, 79, 80, 81, 82, 83, 84, 85, 86, 87, 88, 89, 90, 97, 98, 99, 100, 101, 102, 103, 104, 105, 106, 107, 108, 109, 110, 111, 112, 113, 114, 115, 116, 117, 118, 119, 120, 121, 122, 48, 49, 50, 51, 52, 53, 54, 55, 56, 57, 43, 47])) (.t 41)⟩, ⟨some 43, none, .call fn_p_strings_Builder_WriteByte [(.t 3), (.t 42)]⟩])))
  (rg false [⟨some 44, none, .bin .add (.t 32) (.k (.i .i64 1))⟩, ⟨some 32, none, .mv (.t 44)⟩]))))
noncomputable def c_sixtyfour_Encode_l2 : AC :=
  (.seq (.seq (rg false [⟨some 8, none, .mv (.t 0)⟩, ⟨some 9, none, .len (.t 8)⟩, ⟨some 10, none, .bin .gtr (.t 9) (.k (.i .i64 0))⟩])
  (.cond (.t 10)
   .skip
   (.exit 0)))
  (.blk 1
   (.seq (rg false [⟨some 11, none, .mv (.t 0)⟩, ⟨some 12, none, .len (.t 11)⟩, ⟨some 13, none, .mnx false (.t 12) (.k (.i .i64 3))⟩, ⟨some 4, none, .mv (.t 13)⟩])
   (.seq (rg false [⟨some 5, none, .mv (.k (.i .u32 0))⟩])
   (.seq (.seq (rg false [⟨some 14, none, .mv (.k (.i .i64 0))⟩])
   (.blk 2
    (.loop [0, 3, 4, 5, 14] c_sixtyfour_Encode_l0)))
   (.seq (.seq (rg false [⟨some 30, none, .mv (.t 4)⟩, ⟨some 31, none, .bin .add (.t 30) (.k (.i .i64 1))⟩, ⟨some 32, none, .mv (.k (.i .i64 0))⟩])
   (.blk 4
    (.loop [0, 3, 4, 5, 31, 32] c_sixtyfour_Encode_l1)))
   (.seq (rg false [⟨some 45, none, .mv (.t 4)⟩, ⟨some 46, none, .bin .sub (.k (.i .i64 3)) (.t 45)⟩, ⟨some 47, none, .call fn_strings_Repeat [(.k (.s [61])), (.t 46)]⟩, ⟨some 48, none, .call fn_p_strings_Builder_WriteString [(.t 3), (.t 47)]⟩])
   (rg false [⟨some 49, none, .mv (.t 0)⟩, ⟨some 50, none, .mv (.t 4)⟩, ⟨some 51, none, .sll 1 (.t 49) (some (.t 50)) none⟩, ⟨some 0, none, .mv (.t 51)⟩]))))))))
noncomputable def c_sixtyfour_Encode : AFn := ⟨false, 1, 53, [.tmp 2],
  (.seq (rg false [⟨some 2, none, .mv (.k (.s []))⟩])
  (.seq (rg false [⟨some 3, none, .alloc 65 (zz [(1, .nilp), (1, .nils)])⟩])
  (.seq (.blk 0
   (.loop [0, 3] c_sixtyfour_Encode_l2))
  (.seq (rg false [⟨some 52, none, .call fn_p_strings_Builder_String [(.t 3)]⟩, ⟨some 2, none, .mv (.t 52)⟩])
  .ret))))⟩
noncomputable def c_addr_Width : AFn := ⟨false, 1, 11, [.tmp 2],
  (.seq (rg false [⟨some 1, none, .box 80 17 (.t 0)⟩, ⟨some 2, none, .mv (.k (.i .i64 0))⟩])
  (.seq (.blk 0
   (.seq (rg false [⟨some 4, none, .ld true 17 (.t 1)⟩, ⟨some 5, none, .call fn_addr_Right [(.t 4)]⟩, ⟨some 6, none, .un .not (.t 5)⟩, ⟨some 3, none, .mv (.t 6)⟩])
   (.cond (.t 3)
    (.seq (rg false [⟨some 2, none, .mv (.k (.i .i64 0))⟩])
    .ret)
    (.seq (rg false [⟨some 8, none, .fa 0 (.t 1)⟩, ⟨some 9, none, .ld false 1 (.t 8)⟩, ⟨some 10, none, .bin .eql (.t 9) (.k (.i .i64 4))⟩, ⟨some 7, none, .mv (.t 10)⟩])
    (.cond (.t 7)
     (.seq (rg false [⟨some 2, none, .mv (.k (.i .i64 32))⟩])
     .ret)
     .skip)))))
  (.seq (rg false [⟨some 2, none, .mv (.k (.i .i64 128))⟩])
  .ret)))⟩
noncomputable def c_addr_Text : AFn := ⟨false, 1, 19, [.tmp 2],
  (.seq (rg false [⟨some 1, none, .box 80 17 (.t 0)⟩, ⟨some 2, none, .mv (.k (.s []))⟩])
  (.seq (.blk 0
   (.seq (rg false [⟨some 4, none, .ld true 17 (.t 1)⟩, ⟨some 5, none, .call fn_addr_Right [(.t 4)]⟩, ⟨some 6, none, .un .not (.t 5)⟩, ⟨some 3, none, .mv (.t 6)⟩])
   (.cond (.t 3)
    (.seq (rg false [⟨some 2, none, .mv (.k (.s []))⟩])
    .ret)
    (.seq (rg false [⟨some 8, none, .fa 0 (.t 1)⟩, ⟨some 9, none, .ld false 1 (.t 8)⟩, ⟨some 10, none, .bin .eql (.t 9) (.k (.i .i64 4))⟩, ⟨some 7, none, .mv (.t 10)⟩])
    (.cond (.t 7)
     (.seq (rg false [⟨some 11, none, .fa 1 (.t 1)⟩, ⟨some 12, none, .sla 16 1 (.t 11) none (some (.k (.i .i64 4)))⟩, ⟨some 13, none, .s2a 4 1 (.t 12)⟩, ⟨some 14, none, .ld true 4 (.t 13)⟩, ⟨some 15, none, .call fn_quad_Text [(.t 14)]⟩, ⟨some 2, none, .mv (.t 15)⟩])
     .ret)
     .skip)))))
  (.seq (rg false [⟨some 16, none, .fa 1 (.t 1)⟩, ⟨some 17, none, .ld true 16 (.t 16)⟩, ⟨some 18, none, .call fn_colon_Text [(.t 17)]⟩, ⟨some 2, none, .mv (.t 18)⟩])
  .ret)))⟩
noncomputable def c_addr_Right : AFn := ⟨false, 1, 20, [.tmp 2],
  (.seq (rg false [⟨some 1, none, .box 80 17 (.t 0)⟩, ⟨some 2, none, .mv (.k (.b false))⟩])
  (.seq (rg true [⟨some 3, none, .fa 0 (.t 1)⟩, ⟨some 4, none, .ld false 1 (.t 3)⟩, ⟨some 5, none, .bin .eql (.t 4) (.k (.i .i64 6))⟩, ⟨some 6, none, .mv (.t 5)⟩, ⟨some 7, some (6, false), .fa 0 (.t 1)⟩, ⟨some 8, some (6, false), .ld false 1 (.t 7)⟩, ⟨some 9, some (6, false), .bin .eql (.t 8) (.k (.i .i64 4))⟩, ⟨some 10, some (6, false), .mv (.t 9)⟩, ⟨some 11, some (10, true), .ld true 17 (.t 1)⟩, ⟨some 12, some (10, true), .fa 1 (.t 1)⟩, ⟨some 13, some (10, true), .sla 16 1 (.t 12) none (some (.k (.i .i64 4)))⟩, ⟨some 14, some (10, true), .s2a 4 1 (.t 13)⟩, ⟨some 15, some (10, true), .ld true 4 (.t 14)⟩, ⟨some 16, some (10, true), .call fn_addr_Four [(.t 15)]⟩, ⟨some 17, some (10, true), .eq false (.agg (kk [(1, .i .i64), (16, .i .u8)])) (.t 11) (.t 16)⟩, ⟨some 18, some (6, false), .pick (.t 10) (.t 17) (.k (.b false))⟩, ⟨some 19, none, .pick (.t 6) (.k (.b true)) (.t 18)⟩, ⟨some 2, none, .mv (.t 19)⟩])
  .ret))⟩
noncomputable def c_slices_IndexFunc_api_Prefix_l0 : AC :=
  (.seq (rg false [⟨some 9, none, .bin .lss (.t 8) (.t 7)⟩])
  (.seq (.cond (.t 9)
   .skip
   (.exit 0))
  (.seq (.blk 1
   (.seq (rg false [⟨some 10, none, .mv (.t 8)⟩, ⟨some 5, none, .mv (.t 10)⟩])
   (.seq (rg false [⟨some 11, none, .mv (.t 1)⟩, ⟨some 12, none, .mv (.t 0)⟩, ⟨some 13, none, .mv (.t 5)⟩, ⟨some 14, none, .ias 18 (.t 12) (.t 13)⟩, ⟨some 15, none, .ld true 18 (.t 14)⟩, ⟨some 16, none, .callv (.t 11) [(.t 15)]⟩])
   (.cond (.t 16)
    (.seq (rg false [⟨some 17, none, .mv (.t 5)⟩, ⟨some 4, none, .mv (.t 17)⟩])
    .ret)
    .skip))))
  (rg false [⟨some 18, none, .bin .add (.t 8) (.k (.i .i64 1))⟩, ⟨some 8, none, .mv (.t 18)⟩]))))
noncomputable def c_slices_IndexFunc_api_Prefix : AFn := ⟨true, 2, 19, [.tmp 4],
  (.seq (rg false [⟨some 4, none, .mv (.k (.i .i64 0))⟩])
  (.seq (.seq (rg false [⟨some 6, none, .mv (.t 0)⟩, ⟨some 7, none, .len (.t 6)⟩, ⟨some 8, none, .mv (.k (.i .i64 0))⟩])
  (.blk 0
   (.loop [0, 1, 7, 8] c_slices_IndexFunc_api_Prefix_l0)))
  (.seq (rg false [⟨some 4, none, .mv (.k (.i .i64 (-1)))⟩])
  .ret)))⟩
noncomputable def c_cidr_Of : AFn := ⟨false, 2, 26, [.cell true 18 4, .tmp 5],
  (.seq (rg false [⟨some 2, none, .box 80 17 (.t 0)⟩, ⟨some 4, none, .alloc 97 T_api_Prefix.zc⟩, ⟨some 5, none, .mv (.k (.i .i64 0))⟩])
  (.seq (.blk 0
   (.seq (rg false [⟨some 7, none, .ld true 17 (.t 2)⟩, ⟨some 8, none, .call fn_addr_Right [(.t 7)]⟩, ⟨some 9, none, .un .not (.t 8)⟩, ⟨some 6, none, .mv (.t 9)⟩])
   (.cond (.t 6)
    (.seq (rg false [⟨some 10, none, .bld T_api_Prefix.zc []⟩, ⟨none, none, .st 18 (.t 4) (.t 10)⟩, ⟨some 5, none, .mv (.k (.i .i64 1))⟩])
    .ret)
    (.seq (rg false [⟨some 12, none, .mv (.t 1)⟩, ⟨some 13, none, .bin .lss (.t 12) (.k (.i .i64 0))⟩, ⟨some 14, none, .mv (.t 13)⟩, ⟨some 15, some (14, false), .mv (.t 1)⟩, ⟨some 16, some (14, false), .ld true 17 (.t 2)⟩, ⟨some 17, some (14, false), .call fn_addr_Width [(.t 16)]⟩, ⟨some 18, some (14, false), .bin .gtr (.t 15) (.t 17)⟩, ⟨some 19, none, .pick (.t 14) (.k (.b true)) (.t 18)⟩, ⟨some 11, none, .mv (.t 19)⟩])
    (.cond (.t 11)
     (.seq (rg false [⟨some 20, none, .bld T_api_Prefix.zc []⟩, ⟨none, none, .st 18 (.t 4) (.t 20)⟩, ⟨some 5, none, .mv (.k (.i .i64 6))⟩])
     .ret)
     .skip)))))
  (.seq (rg false [⟨some 21, none, .ld true 17 (.t 2)⟩, ⟨some 22, none, .mv (.t 1)⟩, ⟨some 23, none, .call fn_addr_Mask [(.t 21), (.t 22)]⟩, ⟨some 24, none, .mv (.t 1)⟩, ⟨some 25, none, .bld T_api_Prefix.zc [(0, 17, (.t 23)), (17, 1, (.t 24))]⟩, ⟨none, none, .st 18 (.t 4) (.t 25)⟩, ⟨some 5, none, .mv (.k (.i .i64 0))⟩])
  .ret)))⟩
noncomputable def c_p_strings_Builder_WriteByte : AFn := ⟨false, 2, 17, [.tmp 4],
  (.seq (rg false [⟨some 4, none, .mv (.k (.nili))⟩])
  (.seq (rg false [⟨some 5, none, .mv (.t 0)⟩, ⟨some 6, none, .call fn_p_strings_Builder_copyCheck [(.t 5)]⟩])
  (.seq (rg false [⟨some 7, none, .mv (.t 0)⟩, ⟨some 8, none, .mv (.t 0)⟩, ⟨some 9, none, .nilc (.t 8)⟩, ⟨some 10, none, .fa 1 (.t 9)⟩, ⟨some 11, none, .ld false 1 (.t 10)⟩, ⟨some 12, none, .mv (.t 1)⟩, ⟨some 13, none, .bll 1 (List.replicate 1 T.u8.zc) [(0, (.t 12))]⟩, ⟨some 14, none, .app 5 1 1 (.t 11) (.t 13)⟩, ⟨some 15, none, .nilc (.t 7)⟩, ⟨some 16, none, .fa 1 (.t 15)⟩, ⟨none, none, .st 1 (.t 16) (.t 14)⟩])
  (.seq (rg false [⟨some 4, none, .mv (.k (.nili))⟩])
  .ret))))⟩
noncomputable def c_quad_Text_l0 : AC :=
  (.seq (rg false [⟨some 8, none, .bin .lss (.t 7) (.k (.i .i64 4))⟩])
  (.seq (.cond (.t 8)
   .skip
   (.exit 0))
  (.seq (.blk 1
   (.seq (rg false [⟨some 9, none, .mv (.t 7)⟩, ⟨some 10, none, .ixa 4 1 false (.t 6) (.t 7)⟩, ⟨some 4, none, .mv (.t 9)⟩, ⟨some 5, none, .mv (.t 10)⟩])
   (rg false [⟨some 11, none, .mv (.t 4)⟩, ⟨some 12, none, .mv (.t 5)⟩, ⟨some 13, none, .cvi .u64 (.t 12)⟩, ⟨some 14, none, .call fn_decimal_Text [(.t 13)]⟩, ⟨some 15, none, .iaa 4 1 (.t 3) (.t 11)⟩, ⟨none, none, .st 1 (.t 15) (.t 14)⟩])))
  (rg false [⟨some 16, none, .bin .add (.t 7) (.k (.i .i64 1))⟩, ⟨some 7, none, .mv (.t 16)⟩]))))
noncomputable def c_quad_Text : AFn := ⟨false, 1, 19, [.tmp 2],
  (.seq (rg false [⟨some 1, none, .box 142 4 (.t 0)⟩, ⟨some 2, none, .mv (.k (.s []))⟩])
  (.seq (rg false [⟨some 3, none, .alloc 162 (T.arr 4 T.str).zc⟩])
  (.seq (.seq (rg false [⟨some 6, none, .ld true 4 (.t 1)⟩, ⟨some 7, none, .mv (.k (.i .i64 0))⟩])
  (.blk 0
   (.loop [3, 6, 7] c_quad_Text_l0)))
  (.seq (rg false [⟨some 17, none, .sla 4 1 (.t 3) none none⟩, ⟨some 18, none, .call fn_strings_Join [(.t 17), (.k (.s [46]))]⟩, ⟨some 2, none, .mv (.t 18)⟩])
  .ret))))⟩
noncomputable def c_colon_Text : AFn := ⟨false, 1, 27, [.tmp 2],
  (.seq (rg false [⟨some 1, none, .box 78 16 (.t 0)⟩, ⟨some 2, none, .mv (.k (.s []))⟩])
  (.seq (rg false [⟨some 6, none, .ld true 16 (.t 1)⟩, ⟨some 7, none, .call fn_colon_groups [(.t 6)]⟩, ⟨some 3, none, .alloc 165 (T.arr 8 T.u16).zc⟩, ⟨none, none, .st 8 (.t 3) (.t 7)⟩])
  (.seq (rg false [⟨some 9, none, .ld true 8 (.t 3)⟩, ⟨some 10, none, .call fn_colon_longest [(.t 9)]⟩, ⟨some 8, none, .mv (.t 10)⟩, ⟨some 11, none, .ext (.t 8) 0⟩, ⟨some 12, none, .ext (.t 8) 1⟩, ⟨some 4, none, .mv (.t 11)⟩, ⟨some 5, none, .mv (.t 12)⟩])
  (.seq (.seq (rg false [⟨some 13, none, .mv (.t 5)⟩, ⟨some 14, none, .bin .lss (.t 13) (.k (.i .i64 2))⟩])
  (.cond (.t 14)
   (.seq (rg false [⟨some 15, none, .sla 8 1 (.t 3) none none⟩, ⟨some 16, none, .call fn_colon_row [(.t 15)]⟩, ⟨some 2, none, .mv (.t 16)⟩])
   .ret)
   .skip))
  (.seq (rg true [⟨some 17, none, .mv (.t 4)⟩, ⟨some 18, none, .sla 8 1 (.t 3) none (some (.t 17))⟩, ⟨some 19, none, .call fn_colon_row [(.t 18)]⟩, ⟨some 20, none, .bin .add (.t 19) (.k (.s [58, 58]))⟩, ⟨some 21, none, .mv (.t 4)⟩, ⟨some 22, none, .mv (.t 5)⟩, ⟨some 23, none, .bin .add (.t 21) (.t 22)⟩, ⟨some 24, none, .sla 8 1 (.t 3) (some (.t 23)) none⟩, ⟨some 25, none, .call fn_colon_row [(.t 24)]⟩, ⟨some 26, none, .bin .add (.t 20) (.t 25)⟩, ⟨some 2, none, .mv (.t 26)⟩])
  .ret)))))⟩
noncomputable def c_addr_Four : AFn := ⟨false, 1, 10, [.cell true 17 2],
  (.seq (rg false [⟨some 1, none, .box 142 4 (.t 0)⟩, ⟨some 2, none, .alloc 80 T_api_Addr.zc⟩])
  (.seq (rg false [⟨some 4, none, .bld T_api_Addr.zc [(0, 1, (.k (.i .i64 4)))]⟩, ⟨some 3, none, .alloc 80 T_api_Addr.zc⟩, ⟨none, none, .st 17 (.t 3) (.t 4)⟩])
  (.seq (.regd [⟨some 5, none, .fa 1 (.t 3)⟩, ⟨some 6, none, .sla 16 1 (.t 5) none none⟩, ⟨some 7, none, .sla 4 1 (.t 1) none none⟩, ⟨some 8, none, .cpy 1 (.t 6) (.t 7)⟩] [some (0, 0), some (0, 0), some (0, 0), none])
  (.seq (rg false [⟨some 9, none, .ld true 17 (.t 3)⟩, ⟨none, none, .st 17 (.t 2) (.t 9)⟩])
  .ret))))⟩
noncomputable def c_addr_Mask_l0 : AC :=
  (.seq (rg false [⟨some 12, none, .bin .lss (.t 11) (.k (.i .i64 16))⟩])
  (.seq (.cond (.t 12)
   .skip
   (.exit 0))
  (.seq (.blk 1
   (.seq (rg false [⟨some 13, none, .mv (.t 11)⟩, ⟨some 5, none, .mv (.t 13)⟩])
   (.seq (rg false [⟨some 14, none, .mv (.t 1)⟩, ⟨some 15, none, .mv (.t 5)⟩, ⟨some 16, none, .bin .mul (.k (.i .i64 8)) (.t 15)⟩, ⟨some 17, none, .bin .sub (.t 14) (.t 16)⟩, ⟨some 18, none, .mnx true (.t 17) (.k (.i .i64 0))⟩, ⟨some 19, none, .mnx false (.t 18) (.k (.i .i64 8))⟩, ⟨some 6, none, .mv (.t 19)⟩])
   (.seq (.seq (rg false [⟨some 20, none, .mv (.t 1)⟩, ⟨some 21, none, .bin .lss (.t 20) (.k (.i .i64 0))⟩])
   (.cond (.t 21)
    (rg false [⟨some 6, none, .mv (.k (.i .i64 0))⟩])
    .skip))
   (rg false [⟨some 22, none, .mv (.t 5)⟩, ⟨some 23, none, .fa 1 (.t 2)⟩, ⟨some 24, none, .iaa 16 1 (.t 23) (.t 22)⟩, ⟨some 25, none, .ld false 1 (.t 24)⟩, ⟨some 26, none, .mv (.t 6)⟩, ⟨some 27, none, .bin .sub (.k (.i .i64 8)) (.t 26)⟩, ⟨some 28, none, .cvi .u64 (.t 27)⟩, ⟨some 29, none, .bin .shl (.k (.i .u8 255)) (.t 28)⟩, ⟨some 30, none, .bin .and (.t 25) (.t 29)⟩, ⟨some 31, none, .fa 1 (.t 2)⟩, ⟨some 32, none, .iaa 16 1 (.t 31) (.t 22)⟩, ⟨none, none, .st 1 (.t 32) (.t 30)⟩])))))
  (rg false [⟨some 33, none, .bin .add (.t 11) (.k (.i .i64 1))⟩, ⟨some 11, none, .mv (.t 33)⟩]))))
noncomputable def c_addr_Mask : AFn := ⟨false, 2, 35, [.cell true 17 4],
  (.seq (rg false [⟨some 2, none, .box 80 17 (.t 0)⟩, ⟨some 4, none, .alloc 80 T_api_Addr.zc⟩])
  (.seq (.seq (rg false [⟨some 7, none, .ld true 17 (.t 2)⟩, ⟨some 8, none, .call fn_addr_Right [(.t 7)]⟩, ⟨some 9, none, .un .not (.t 8)⟩])
  (.cond (.t 9)
   (.seq (rg false [⟨some 10, none, .bld T_api_Addr.zc []⟩, ⟨none, none, .st 17 (.t 4) (.t 10)⟩])
   .ret)
   .skip))
  (.seq (.seq (rg false [⟨some 11, none, .mv (.k (.i .i64 0))⟩])
  (.blk 0
   (.loop [1, 2, 4, 11] c_addr_Mask_l0)))
  (.seq (rg false [⟨some 34, none, .ld true 17 (.t 2)⟩, ⟨none, none, .st 17 (.t 4) (.t 34)⟩])
  .ret))))⟩
noncomputable def c_colon_longest_l0 : AC :=
  (.seq (rg false [⟨some 9, none, .bin .lss (.t 8) (.k (.i .i64 8))⟩])
  (.seq (.cond (.t 9)
   .skip
   (.exit 0))
  (.seq (.blk 1
   (.seq (rg false [⟨some 10, none, .mv (.t 8)⟩, ⟨some 11, none, .ixa 8 1 false (.t 7) (.t 8)⟩, ⟨some 5, none, .mv (.t 10)⟩, ⟨some 6, none, .mv (.t 11)⟩])
   (.seq (.seq (rg false [⟨some 12, none, .mv (.t 6)⟩, ⟨some 13, none, .bin .neq (.t 12) (.k (.i .u16 0))⟩])
   (.cond (.t 13)
    (.seq (rg false [⟨some 4, none, .mv (.k (.i .i64 0))⟩])
    (.exit 1))
    .skip))
   (.seq (rg false [⟨some 14, none, .mv (.t 4)⟩, ⟨some 15, none, .bin .add (.t 14) (.k (.i .i64 1))⟩, ⟨some 4, none, .mv (.t 15)⟩])
   (.seq (rg false [⟨some 16, none, .mv (.t 4)⟩, ⟨some 17, none, .mv (.t 3)⟩, ⟨some 18, none, .bin .gtr (.t 16) (.t 17)⟩])
   (.cond (.t 18)
    (rg false [⟨some 19, none, .mv (.t 5)⟩, ⟨some 20, none, .bin .add (.t 19) (.k (.i .i64 1))⟩, ⟨some 21, none, .mv (.t 4)⟩, ⟨some 22, none, .bin .sub (.t 20) (.t 21)⟩, ⟨some 23, none, .mv (.t 4)⟩, ⟨some 2, none, .mv (.t 22)⟩, ⟨some 3, none, .mv (.t 23)⟩])
    .skip))))))
  (rg false [⟨some 24, none, .bin .add (.t 8) (.k (.i .i64 1))⟩, ⟨some 8, none, .mv (.t 24)⟩]))))
noncomputable def c_colon_longest : AFn := ⟨false, 1, 27, [.tmp 2, .tmp 3],
  (.seq (rg false [⟨some 1, none, .box 165 8 (.t 0)⟩, ⟨some 2, none, .mv (.k (.i .i64 0))⟩, ⟨some 3, none, .mv (.k (.i .i64 0))⟩])
  (.seq (rg false [⟨some 4, none, .mv (.k (.i .i64 0))⟩])
  (.seq (.seq (rg false [⟨some 7, none, .ld true 8 (.t 1)⟩, ⟨some 8, none, .mv (.k (.i .i64 0))⟩])
  (.blk 0
   (.loop [2, 3, 4, 7, 8] c_colon_longest_l0)))
  (.seq (rg false [⟨some 25, none, .mv (.t 2)⟩, ⟨some 26, none, .mv (.t 3)⟩, ⟨some 2, none, .mv (.t 25)⟩, ⟨some 3, none, .mv (.t 26)⟩])
  .ret))))⟩
noncomputable def c_colon_row_l0 : AC :=
  (.seq (rg false [⟨some 9, none, .bin .lss (.t 8) (.t 7)⟩])
  (.seq (.cond (.t 9)
   .skip
   (.exit 0))
  (.seq (.blk 1
   (.seq (rg false [⟨some 10, none, .ias 1 (.t 6) (.t 8)⟩, ⟨some 11, none, .ld false 1 (.t 10)⟩, ⟨some 5, none, .mv (.t 11)⟩])
   (rg false [⟨some 12, none, .mv (.t 3)⟩, ⟨some 13, none, .mv (.t 5)⟩, ⟨some 14, none, .call fn_hexes_Group [(.t 13)]⟩, ⟨some 15, none, .bll 1 (List.replicate 1 T.str.zc) [(0, (.t 14))]⟩, ⟨some 16, none, .app 9 1 16 (.t 12) (.t 15)⟩, ⟨some 3, none, .mv (.t 16)⟩])))
  (rg false [⟨some 17, none, .bin .add (.t 8) (.k (.i .i64 1))⟩, ⟨some 8, none, .mv (.t 17)⟩]))))
noncomputable def c_colon_row : AFn := ⟨false, 1, 20, [.tmp 2],
  (.seq (rg false [⟨some 2, none, .mv (.k (.s []))⟩])
  (.seq (rg false [⟨some 3, none, .mv (.k (.nils))⟩])
  (.seq (.seq (rg false [⟨some 6, none, .mv (.t 0)⟩, ⟨some 7, none, .len (.t 6)⟩, ⟨some 8, none, .mv (.k (.i .i64 0))⟩])
  (.blk 0
   (.loop [3, 6, 7, 8] c_colon_row_l0)))
  (.seq (rg false [⟨some 18, none, .mv (.t 3)⟩, ⟨some 19, none, .call fn_strings_Join [(.t 18), (.k (.s [58]))]⟩, ⟨some 2, none, .mv (.t 19)⟩])
  .ret))))⟩
noncomputable def fnl : List (Nat × AFn) := [(fn_l44_IniwriteSame, c_l44_IniwriteSame),
  (fn_lines_Join, c_lines_Join),
  (fn_r43_Large, c_r43_Large),
  (fn_l44_alive, c_l44_alive),
  (fn_iniwrite_Same, c_iniwrite_Same),
  (fn_r43_Same, c_r43_Same),
  (fn_p_strings_Builder_WriteString, c_p_strings_Builder_WriteString),
  (fn_p_strings_Builder_String, c_p_strings_Builder_String),
  (fn_iniwrite_Text, c_iniwrite_Text),
  (fn_slices_EqualFunc_api_IniPeer_api_IniPeer, c_slices_EqualFunc_api_IniPeer_api_IniPeer),
  (fn_iniwrite_alike, c_iniwrite_alike),
  (fn_r11_Same, c_r11_Same),
  (fn_p_strings_Builder_copyCheck, c_p_strings_Builder_copyCheck),
  (fn_iniwrite_Right, c_iniwrite_Right),
  (fn_iniwrite_file, c_iniwrite_file),
  (fn_slices_Equal_api_Prefix, c_slices_Equal_api_Prefix),
  (fn_iniwrite_short, c_iniwrite_short),
  (fn_slices_ContainsFunc_api_IniPeer, c_slices_ContainsFunc_api_IniPeer),
  (fn_iniwrite_wrong, c_iniwrite_wrong),
  (fn_iniwrite_file_1, c_iniwrite_file_1),
  (fn_iniwrite_file_2, c_iniwrite_file_2),
  (fn_iniwrite_file_2_1, c_iniwrite_file_2_1),
  (fn_decimal_Text, c_decimal_Text),
  (fn_iniwrite_file_3, c_iniwrite_file_3),
  (fn_iniwrite_file_3_1, c_iniwrite_file_3_1),
  (fn_keys_Text, c_keys_Text),
  (fn_keys_Zero, c_keys_Zero),
  (fn_hostport_None, c_hostport_None),
  (fn_iniwrite_file_4, c_iniwrite_file_4),
  (fn_hostport_Text, c_hostport_Text),
  (fn_iniwrite_file_5, c_iniwrite_file_5),
  (fn_cidr_Text, c_cidr_Text),
  (fn_slices_IndexFunc_api_IniPeer, c_slices_IndexFunc_api_IniPeer),
  (fn_hostport_Right, c_hostport_Right),
  (fn_slices_ContainsFunc_api_Prefix, c_slices_ContainsFunc_api_Prefix),
  (fn_iniwrite_wrong_1, c_iniwrite_wrong_1),
  (fn_cidr_Right, c_cidr_Right),
  (fn_strconv_FormatUint, c_strconv_FormatUint),
  (fn_sixtyfour_Encode, c_sixtyfour_Encode),
  (fn_addr_Width, c_addr_Width),
  (fn_addr_Text, c_addr_Text),
  (fn_addr_Right, c_addr_Right),
  (fn_slices_IndexFunc_api_Prefix, c_slices_IndexFunc_api_Prefix),
  (fn_cidr_Of, c_cidr_Of),
  (fn_p_strings_Builder_WriteByte, c_p_strings_Builder_WriteByte),
  (fn_quad_Text, c_quad_Text),
  (fn_colon_Text, c_colon_Text),
  (fn_addr_Four, c_addr_Four),
  (fn_addr_Mask, c_addr_Mask),
  (fn_colon_longest, c_colon_longest),
  (fn_colon_row, c_colon_row)]
def prl : List (Nat × (List AV → Heap → Option (AV × Option Heap))) := [(fn_internal_abi_NoEscape, pSame)]
noncomputable def tb : Tab := ⟨fun n => look n fnl, fun _ => none, fun n => look n prl⟩
theorem f_l44_IniwriteSame : tb.prim fn_l44_IniwriteSame = none ∧ tb.fns fn_l44_IniwriteSame = some c_l44_IniwriteSame := ⟨rfl, rfl⟩
theorem f_lines_Join : tb.prim fn_lines_Join = none ∧ tb.fns fn_lines_Join = some c_lines_Join := ⟨rfl, rfl⟩
theorem f_r43_Large : tb.prim fn_r43_Large = none ∧ tb.fns fn_r43_Large = some c_r43_Large := ⟨rfl, rfl⟩
theorem f_l44_alive : tb.prim fn_l44_alive = none ∧ tb.fns fn_l44_alive = some c_l44_alive := ⟨rfl, rfl⟩
theorem f_iniwrite_Same : tb.prim fn_iniwrite_Same = none ∧ tb.fns fn_iniwrite_Same = some c_iniwrite_Same := ⟨rfl, rfl⟩
theorem f_r43_Same : tb.prim fn_r43_Same = none ∧ tb.fns fn_r43_Same = some c_r43_Same := ⟨rfl, rfl⟩
theorem f_p_strings_Builder_WriteString : tb.prim fn_p_strings_Builder_WriteString = none ∧ tb.fns fn_p_strings_Builder_WriteString = some c_p_strings_Builder_WriteString := ⟨rfl, rfl⟩
theorem f_p_strings_Builder_String : tb.prim fn_p_strings_Builder_String = none ∧ tb.fns fn_p_strings_Builder_String = some c_p_strings_Builder_String := ⟨rfl, rfl⟩
theorem f_iniwrite_Text : tb.prim fn_iniwrite_Text = none ∧ tb.fns fn_iniwrite_Text = some c_iniwrite_Text := ⟨rfl, rfl⟩
theorem f_slices_EqualFunc_api_IniPeer_api_IniPeer : tb.prim fn_slices_EqualFunc_api_IniPeer_api_IniPeer = none ∧ tb.fns fn_slices_EqualFunc_api_IniPeer_api_IniPeer = some c_slices_EqualFunc_api_IniPeer_api_IniPeer := ⟨rfl, rfl⟩
theorem f_iniwrite_alike : tb.prim fn_iniwrite_alike = none ∧ tb.fns fn_iniwrite_alike = some c_iniwrite_alike := ⟨rfl, rfl⟩
theorem f_r11_Same : tb.prim fn_r11_Same = none ∧ tb.fns fn_r11_Same = some c_r11_Same := ⟨rfl, rfl⟩
theorem f_p_strings_Builder_copyCheck : tb.prim fn_p_strings_Builder_copyCheck = none ∧ tb.fns fn_p_strings_Builder_copyCheck = some c_p_strings_Builder_copyCheck := ⟨rfl, rfl⟩
theorem f_iniwrite_Right : tb.prim fn_iniwrite_Right = none ∧ tb.fns fn_iniwrite_Right = some c_iniwrite_Right := ⟨rfl, rfl⟩
theorem f_iniwrite_file : tb.prim fn_iniwrite_file = none ∧ tb.fns fn_iniwrite_file = some c_iniwrite_file := ⟨rfl, rfl⟩
theorem f_slices_Equal_api_Prefix : tb.prim fn_slices_Equal_api_Prefix = none ∧ tb.fns fn_slices_Equal_api_Prefix = some c_slices_Equal_api_Prefix := ⟨rfl, rfl⟩
theorem f_iniwrite_short : tb.prim fn_iniwrite_short = none ∧ tb.fns fn_iniwrite_short = some c_iniwrite_short := ⟨rfl, rfl⟩
theorem f_slices_ContainsFunc_api_IniPeer : tb.prim fn_slices_ContainsFunc_api_IniPeer = none ∧ tb.fns fn_slices_ContainsFunc_api_IniPeer = some c_slices_ContainsFunc_api_IniPeer := ⟨rfl, rfl⟩
theorem f_iniwrite_wrong : tb.prim fn_iniwrite_wrong = none ∧ tb.fns fn_iniwrite_wrong = some c_iniwrite_wrong := ⟨rfl, rfl⟩
theorem f_iniwrite_file_1 : tb.prim fn_iniwrite_file_1 = none ∧ tb.fns fn_iniwrite_file_1 = some c_iniwrite_file_1 := ⟨rfl, rfl⟩
theorem f_iniwrite_file_2 : tb.prim fn_iniwrite_file_2 = none ∧ tb.fns fn_iniwrite_file_2 = some c_iniwrite_file_2 := ⟨rfl, rfl⟩
theorem f_iniwrite_file_2_1 : tb.prim fn_iniwrite_file_2_1 = none ∧ tb.fns fn_iniwrite_file_2_1 = some c_iniwrite_file_2_1 := ⟨rfl, rfl⟩
theorem f_decimal_Text : tb.prim fn_decimal_Text = none ∧ tb.fns fn_decimal_Text = some c_decimal_Text := ⟨rfl, rfl⟩
theorem f_iniwrite_file_3 : tb.prim fn_iniwrite_file_3 = none ∧ tb.fns fn_iniwrite_file_3 = some c_iniwrite_file_3 := ⟨rfl, rfl⟩
theorem f_iniwrite_file_3_1 : tb.prim fn_iniwrite_file_3_1 = none ∧ tb.fns fn_iniwrite_file_3_1 = some c_iniwrite_file_3_1 := ⟨rfl, rfl⟩
theorem f_keys_Text : tb.prim fn_keys_Text = none ∧ tb.fns fn_keys_Text = some c_keys_Text := ⟨rfl, rfl⟩
theorem f_keys_Zero : tb.prim fn_keys_Zero = none ∧ tb.fns fn_keys_Zero = some c_keys_Zero := ⟨rfl, rfl⟩
theorem f_hostport_None : tb.prim fn_hostport_None = none ∧ tb.fns fn_hostport_None = some c_hostport_None := ⟨rfl, rfl⟩
theorem f_iniwrite_file_4 : tb.prim fn_iniwrite_file_4 = none ∧ tb.fns fn_iniwrite_file_4 = some c_iniwrite_file_4 := ⟨rfl, rfl⟩
theorem f_hostport_Text : tb.prim fn_hostport_Text = none ∧ tb.fns fn_hostport_Text = some c_hostport_Text := ⟨rfl, rfl⟩
theorem f_iniwrite_file_5 : tb.prim fn_iniwrite_file_5 = none ∧ tb.fns fn_iniwrite_file_5 = some c_iniwrite_file_5 := ⟨rfl, rfl⟩
theorem f_cidr_Text : tb.prim fn_cidr_Text = none ∧ tb.fns fn_cidr_Text = some c_cidr_Text := ⟨rfl, rfl⟩
theorem f_slices_IndexFunc_api_IniPeer : tb.prim fn_slices_IndexFunc_api_IniPeer = none ∧ tb.fns fn_slices_IndexFunc_api_IniPeer = some c_slices_IndexFunc_api_IniPeer := ⟨rfl, rfl⟩
theorem f_hostport_Right : tb.prim fn_hostport_Right = none ∧ tb.fns fn_hostport_Right = some c_hostport_Right := ⟨rfl, rfl⟩
theorem f_slices_ContainsFunc_api_Prefix : tb.prim fn_slices_ContainsFunc_api_Prefix = none ∧ tb.fns fn_slices_ContainsFunc_api_Prefix = some c_slices_ContainsFunc_api_Prefix := ⟨rfl, rfl⟩
theorem f_iniwrite_wrong_1 : tb.prim fn_iniwrite_wrong_1 = none ∧ tb.fns fn_iniwrite_wrong_1 = some c_iniwrite_wrong_1 := ⟨rfl, rfl⟩
theorem f_cidr_Right : tb.prim fn_cidr_Right = none ∧ tb.fns fn_cidr_Right = some c_cidr_Right := ⟨rfl, rfl⟩
theorem f_strconv_FormatUint : tb.prim fn_strconv_FormatUint = none ∧ tb.fns fn_strconv_FormatUint = some c_strconv_FormatUint := ⟨rfl, rfl⟩
theorem f_sixtyfour_Encode : tb.prim fn_sixtyfour_Encode = none ∧ tb.fns fn_sixtyfour_Encode = some c_sixtyfour_Encode := ⟨rfl, rfl⟩
theorem f_addr_Width : tb.prim fn_addr_Width = none ∧ tb.fns fn_addr_Width = some c_addr_Width := ⟨rfl, rfl⟩
theorem f_addr_Text : tb.prim fn_addr_Text = none ∧ tb.fns fn_addr_Text = some c_addr_Text := ⟨rfl, rfl⟩
theorem f_addr_Right : tb.prim fn_addr_Right = none ∧ tb.fns fn_addr_Right = some c_addr_Right := ⟨rfl, rfl⟩
theorem f_slices_IndexFunc_api_Prefix : tb.prim fn_slices_IndexFunc_api_Prefix = none ∧ tb.fns fn_slices_IndexFunc_api_Prefix = some c_slices_IndexFunc_api_Prefix := ⟨rfl, rfl⟩
theorem f_cidr_Of : tb.prim fn_cidr_Of = none ∧ tb.fns fn_cidr_Of = some c_cidr_Of := ⟨rfl, rfl⟩
theorem f_p_strings_Builder_WriteByte : tb.prim fn_p_strings_Builder_WriteByte = none ∧ tb.fns fn_p_strings_Builder_WriteByte = some c_p_strings_Builder_WriteByte := ⟨rfl, rfl⟩
theorem f_quad_Text : tb.prim fn_quad_Text = none ∧ tb.fns fn_quad_Text = some c_quad_Text := ⟨rfl, rfl⟩
theorem f_colon_Text : tb.prim fn_colon_Text = none ∧ tb.fns fn_colon_Text = some c_colon_Text := ⟨rfl, rfl⟩
theorem f_addr_Four : tb.prim fn_addr_Four = none ∧ tb.fns fn_addr_Four = some c_addr_Four := ⟨rfl, rfl⟩
theorem f_addr_Mask : tb.prim fn_addr_Mask = none ∧ tb.fns fn_addr_Mask = some c_addr_Mask := ⟨rfl, rfl⟩
theorem f_colon_longest : tb.prim fn_colon_longest = none ∧ tb.fns fn_colon_longest = some c_colon_longest := ⟨rfl, rfl⟩
theorem f_colon_row : tb.prim fn_colon_row = none ∧ tb.fns fn_colon_row = some c_colon_row := ⟨rfl, rfl⟩
end Go.Proofs.YtopgecohakediaaDoor.Am
