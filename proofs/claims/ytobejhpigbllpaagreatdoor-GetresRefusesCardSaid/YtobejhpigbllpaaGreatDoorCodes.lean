/-
  The functions: their numbers, their codes. Printed by mkwalk.py.
-/
import Derived.Test.YtobejhpigbllpaaGreatDoorTy
import Derived.Test.YtobejhpigbllpaaGreatDoorAmV
set_option linter.unusedVariables false
set_option maxRecDepth 100000
namespace Go.Proofs.YtobejhpigbllpaaGreatDoor.Am

def fn_l39_GetresRefuses : Nat := 8
def fn_r06_Loose : Nat := 20
def fn_l39_alive : Nat := 23
def fn_getres_Text : Nat := 24
def fn_getres_Refusal : Nat := 28
def fn_r39_Refusal : Nat := 29
def fn_r03_Text : Nat := 39
def fn_r06_Parts : Nat := 41
def fn_lines_Join : Nat := 43
def fn_view_Right : Nat := 46
def fn_getres_peer : Nat := 47
def fn_pairline_Block : Nat := 48
def fn_getres_pairs : Nat := 49
def fn_p_strings_Builder_WriteString : Nat := 61
def fn_p_strings_Builder_String : Nat := 62
def fn_view_short : Nat := 72
def fn_view_rising : Nat := 73
def fn_hostport_None : Nat := 74
def fn_hostport_Right : Nat := 75
def fn_pairline_Text : Nat := 76
def fn_field_Pair : Nat := 77
def fn_hexes_Encode : Nat := 85
def fn_keys_Hex : Nat := 95
def fn_decimal_Text : Nat := 100
def fn_p_strings_Builder_copyCheck : Nat := 105
def fn_strings_IndexByte : Nat := 107
def fn_cidr_Right : Nat := 118
def fn_cidr_Less : Nat := 119
def fn_addr_Right : Nat := 120
def fn_strings_ContainsAny : Nat := 121
def fn_strings_Contains : Nat := 122
def fn_field_Right : Nat := 123
def fn_field_shapeOf : Nat := 124
def fn_field_Name : Nat := 125
def fn_p_strings_Builder_WriteByte : Nat := 132
def fn_addr_Width : Nat := 134
def fn_strconv_FormatUint : Nat := 139
def fn_internal_abi_NoEscape : Nat := 142
def fn_internal_stringslite_IndexByte : Nat := 144
def fn_cidr_Of : Nat := 154
def fn_addr_Less : Nat := 155
def fn_addr_Four : Nat := 156
def fn_strings_IndexAny : Nat := 157
def fn_strings_Index : Nat := 158
def fn_field_keyed : Nat := 159
def fn_field_ended : Nat := 160
def fn_field_allowed : Nat := 161
def fn_field_counted : Nat := 162
def fn_field_said : Nat := 163
def fn_internal_strconv_FormatUint : Nat := 172
def fn_internal_bytealg_IndexByteString : Nat := 175
def fn_addr_Mask : Nat := 181
def fn_bytes_Compare : Nat := 182
def fn_strings_IndexRune : Nat := 183
def fn_strings_shouldUseASCIISet : Nat := 184
def fn_strings_makeASCIISet : Nat := 185
def fn_p_strings_asciiSet_contains : Nat := 186
def fn_internal_stringslite_Index : Nat := 187
def fn_field_keyed_1 : Nat := 188
def fn_field_keyed_2 : Nat := 189
def fn_field_keyed_3 : Nat := 190
def fn_field_ended_1 : Nat := 191
def fn_field_ended_2 : Nat := 192
def fn_field_ended_3 : Nat := 193
def fn_field_allowed_1 : Nat := 194
def fn_field_allowed_2 : Nat := 196
def fn_field_allowed_3 : Nat := 198
def fn_field_counted_1 : Nat := 199
def fn_field_counted_2 : Nat := 200
def fn_field_counted_3 : Nat := 201
def fn_field_said_1 : Nat := 202
def fn_field_said_2 : Nat := 203
def fn_field_said_3 : Nat := 204
def fn_internal_strconv_small : Nat := 212
def fn_internal_strconv_numDigits : Nat := 213
def fn_internal_strconv_formatBase10 : Nat := 214
def fn_internal_strconv_formatBits : Nat := 215
def fn_internal_bytealg_Compare : Nat := 226
def fn_unicode_utf8_ValidRune : Nat := 227
def fn_internal_bytealg_Cutover : Nat := 228
def fn_internal_bytealg_IndexString : Nat := 229
def fn_internal_bytealg_IndexRabinKarp_string : Nat := 230
def fn_internal_strconv_log10Pow2 : Nat := 239
def fn_math_bits_Len64 : Nat := 240
def fn_internal_strconv_bool2_int : Nat := 241
noncomputable def c_l39_GetresRefuses : AFn := ⟨false, 1, 11, [.tmp 2],
  (.seq (rg false [⟨some 2, none, .mv (.k (.b false))⟩])
  (.seq (rg false [⟨some 3, none, .mv (.t 0)⟩, ⟨some 4, none, .call fn_getres_Refusal [(.t 3)]⟩, ⟨some 5, none, .mv (.t 0)⟩, ⟨some 6, none, .call fn_r39_Refusal [(.t 5)]⟩, ⟨some 7, none, .bin .eql (.t 4) (.t 6)⟩, ⟨some 8, none, .mv (.t 7)⟩, ⟨some 9, some (8, true), .call fn_l39_alive []⟩, ⟨some 10, none, .pick (.t 8) (.t 9) (.k (.b false))⟩, ⟨some 2, none, .mv (.t 10)⟩])
  .ret))⟩
noncomputable def c_r06_Loose : AFn := ⟨false, 1, 19, [.tmp 2],
  (.seq (rg false [⟨some 2, none, .mv (.k (.nils))⟩])
  (.seq (rg false [⟨some 4, none, .mv (.t 0)⟩, ⟨some 5, none, .call fn_r06_Parts [(.t 4), (.k (.i .u8 10))]⟩, ⟨some 3, none, .mv (.t 5)⟩])
  (.seq (.seq (rg false [⟨some 6, none, .mv (.t 3)⟩, ⟨some 7, none, .mv (.t 3)⟩, ⟨some 8, none, .len (.t 7)⟩, ⟨some 9, none, .bin .sub (.t 8) (.k (.i .i64 1))⟩, ⟨some 10, none, .ias 1 (.t 6) (.t 9)⟩, ⟨some 11, none, .ld false 1 (.t 10)⟩, ⟨some 12, none, .bin .eql (.t 11) (.k (.s []))⟩])
  (.cond (.t 12)
   (.seq (rg false [⟨some 13, none, .mv (.t 3)⟩, ⟨some 14, none, .mv (.t 3)⟩, ⟨some 15, none, .len (.t 14)⟩, ⟨some 16, none, .bin .sub (.t 15) (.k (.i .i64 1))⟩, ⟨some 17, none, .sll 1 (.t 13) none (some (.t 16))⟩, ⟨some 2, none, .mv (.t 17)⟩])
   .ret)
   .skip))
  (.seq (rg false [⟨some 18, none, .mv (.t 3)⟩, ⟨some 2, none, .mv (.t 18)⟩])
  .ret))))⟩
noncomputable def c_l39_alive : AFn := ⟨false, 0, 20, [.tmp 0],
  (.seq (rg false [⟨some 0, none, .mv (.k (.b false))⟩])
  (.seq (rg false [⟨some 4, none, .bld T_api_Conf.zc []⟩, ⟨some 5, none, .call fn_getres_Text [(.t 4)]⟩, ⟨some 3, none, .mv (.t 5)⟩, ⟨some 6, none, .ext (.t 3) 0⟩, ⟨some 7, none, .ext (.t 3) 1⟩, ⟨some 1, none, .mv (.t 6)⟩, ⟨some 2, none, .mv (.t 7)⟩])
  (.seq (rg false [⟨some 8, none, .mv (.t 2)⟩, ⟨some 9, none, .bin .eql (.t 8) (.k (.i .i64 0))⟩, ⟨some 10, none, .mv (.t 9)⟩, ⟨some 11, some (10, true), .mv (.t 1)⟩, ⟨some 12, some (10, true), .call fn_r06_Loose [(.t 11)]⟩, ⟨some 13, some (10, true), .len (.t 12)⟩, ⟨some 14, some (10, true), .bin .eql (.t 13) (.k (.i .i64 5))⟩, ⟨some 15, none, .pick (.t 10) (.t 14) (.k (.b false))⟩, ⟨some 16, none, .mv (.t 15)⟩, ⟨some 17, some (16, true), .call fn_getres_Refusal [(.k (.i .i64 7))]⟩, ⟨some 18, some (16, true), .bin .eql (.t 17) (.k (.s [101, 114, 114, 110, 111, 61, 55, 10, 10]))⟩, ⟨some 19, none, .pick (.t 16) (.t 18) (.k (.b false))⟩, ⟨some 0, none, .mv (.t 19)⟩])
  .ret)))⟩
noncomputable def c_getres_Text_l0 : AC :=
  (.seq (rg false [⟨some 26, none, .bin .lss (.t 25) (.t 24)⟩])
  (.seq (.cond (.t 26)
   .skip
   (.exit 0))
  (.seq (.blk 1
   (.seq (rg false [⟨some 27, none, .ias 86 (.t 23) (.t 25)⟩, ⟨some 28, none, .ld true 86 (.t 27)⟩, ⟨some 6, none, .alloc 89 T_api_Peer.zc⟩, ⟨none, none, .st 86 (.t 6) (.t 28)⟩])
   (rg false [⟨some 29, none, .mv (.t 4)⟩, ⟨some 30, none, .ld true 86 (.t 6)⟩, ⟨some 31, none, .call fn_getres_peer [(.t 30)]⟩, ⟨some 32, none, .app 93 70 112 (.t 29) (.t 31)⟩, ⟨some 4, none, .mv (.t 32)⟩])))
  (rg false [⟨some 33, none, .bin .add (.t 25) (.k (.i .i64 1))⟩, ⟨some 25, none, .mv (.t 33)⟩]))))
noncomputable def c_getres_Text : AFn := ⟨false, 1, 42, [.tmp 2, .tmp 3],
  (.seq (rg false [⟨some 1, none, .box 54 35 (.t 0)⟩, ⟨some 2, none, .mv (.k (.s []))⟩, ⟨some 3, none, .mv (.k (.i .i64 0))⟩])
  (.seq (.seq (rg false [⟨some 7, none, .ld true 35 (.t 1)⟩, ⟨some 8, none, .call fn_view_Right [(.t 7)]⟩, ⟨some 9, none, .un .not (.t 8)⟩])
  (.cond (.t 9)
   (.seq (rg false [⟨some 2, none, .mv (.k (.s []))⟩, ⟨some 3, none, .mv (.k (.i .i64 1))⟩])
   .ret)
   .skip))
  (.seq (rg false [⟨some 10, none, .fa 0 (.t 1)⟩, ⟨some 11, none, .ld true 32 (.t 10)⟩, ⟨some 12, none, .bld T_api_Field.zc [(0, 1, (.k (.i .i64 1))), (1, 32, (.t 11))]⟩, ⟨some 13, none, .fa 32 (.t 1)⟩, ⟨some 14, none, .ld false 1 (.t 13)⟩, ⟨some 15, none, .cvi .u64 (.t 14)⟩, ⟨some 16, none, .bld T_api_Field.zc [(0, 1, (.k (.i .i64 2))), (33, 1, (.t 15))]⟩, ⟨some 17, none, .fa 33 (.t 1)⟩, ⟨some 18, none, .ld false 1 (.t 17)⟩, ⟨some 19, none, .cvi .u64 (.t 18)⟩, ⟨some 20, none, .bld T_api_Field.zc [(0, 1, (.k (.i .i64 3))), (33, 1, (.t 19))]⟩, ⟨some 21, none, .bls 93 70 (List.replicate 3 T_api_Field.zc) [(0, (.t 12)), (1, (.t 16)), (2, (.t 20))]⟩, ⟨some 4, none, .mv (.t 21)⟩])
  (.seq (.seq (rg false [⟨some 22, none, .fa 34 (.t 1)⟩, ⟨some 23, none, .ld false 1 (.t 22)⟩, ⟨some 24, none, .len (.t 23)⟩, ⟨some 25, none, .mv (.k (.i .i64 0))⟩])
  (.blk 0
   (.loop [4, 23, 24, 25] c_getres_Text_l0)))
  (.seq (rg false [⟨some 34, none, .mv (.t 4)⟩, ⟨some 35, none, .bld T_api_Field.zc [(0, 1, (.k (.i .i64 16)))]⟩, ⟨some 36, none, .bll 70 (List.replicate 1 T_api_Field.zc) [(0, (.t 35))]⟩, ⟨some 37, none, .app 93 70 112 (.t 34) (.t 36)⟩, ⟨some 38, none, .call fn_getres_pairs [(.t 37)]⟩, ⟨some 39, none, .call fn_pairline_Block [(.t 38)]⟩, ⟨some 40, none, .ext (.t 39) 0⟩, ⟨some 41, none, .ext (.t 39) 1⟩, ⟨some 2, none, .mv (.t 40)⟩, ⟨some 3, none, .mv (.t 41)⟩])
  .ret)))))⟩
noncomputable def c_getres_Refusal : AFn := ⟨false, 1, 21, [.tmp 2],
  (.seq (rg false [⟨some 2, none, .mv (.k (.s []))⟩])
  (.seq (.seq (rg false [⟨some 5, none, .mv (.t 0)⟩, ⟨some 6, none, .bin .lss (.t 5) (.k (.i .i64 0))⟩, ⟨some 7, none, .mv (.t 6)⟩, ⟨some 8, some (7, false), .mv (.t 0)⟩, ⟨some 9, some (7, false), .bin .gtr (.t 8) (.k (.i .i64 20))⟩, ⟨some 10, none, .pick (.t 7) (.k (.b true)) (.t 9)⟩])
  (.cond (.t 10)
   (rg false [⟨some 0, none, .mv (.k (.i .i64 1))⟩])
   .skip))
  (.seq (rg false [⟨some 12, none, .mv (.t 0)⟩, ⟨some 13, none, .cvi .u64 (.t 12)⟩, ⟨some 14, none, .bld T_api_Field.zc [(0, 1, (.k (.i .i64 16))), (33, 1, (.t 13))]⟩, ⟨some 15, none, .bll 70 (List.replicate 1 T_api_Field.zc) [(0, (.t 14))]⟩, ⟨some 16, none, .call fn_getres_pairs [(.t 15)]⟩, ⟨some 17, none, .call fn_pairline_Block [(.t 16)]⟩, ⟨some 11, none, .mv (.t 17)⟩, ⟨some 18, none, .ext (.t 11) 0⟩, ⟨some 19, none, .ext (.t 11) 1⟩, ⟨some 3, none, .mv (.t 18)⟩, ⟨some 4, none, .mv (.t 19)⟩])
  (.seq (rg false [⟨some 20, none, .mv (.t 3)⟩, ⟨some 2, none, .mv (.t 20)⟩])
  .ret))))⟩
noncomputable def c_r39_Refusal : AFn := ⟨false, 1, 14, [.tmp 2],
  (.seq (rg false [⟨some 2, none, .mv (.k (.s []))⟩])
  (.seq (.seq (rg false [⟨some 3, none, .mv (.t 0)⟩, ⟨some 4, none, .bin .lss (.t 3) (.k (.i .i64 0))⟩, ⟨some 5, none, .mv (.t 4)⟩, ⟨some 6, some (5, false), .mv (.t 0)⟩, ⟨some 7, some (5, false), .bin .gtr (.t 6) (.k (.i .i64 20))⟩, ⟨some 8, none, .pick (.t 5) (.k (.b true)) (.t 7)⟩])
  (.cond (.t 8)
   (rg false [⟨some 0, none, .mv (.k (.i .i64 1))⟩])
   .skip))
  (.seq (rg false [⟨some 9, none, .mv (.t 0)⟩, ⟨some 10, none, .cvi .u64 (.t 9)⟩, ⟨some 11, none, .call fn_r03_Text [(.t 10)]⟩, ⟨some 12, none, .bin .add (.k (.s [101, 114, 114, 110, 111, 61])) (.t 11)⟩, ⟨some 13, none, .bin .add (.t 12) (.k (.s [10, 10]))⟩, ⟨some 2, none, .mv (.t 13)⟩])
  .ret)))⟩
noncomputable def c_r03_Text : AFn := ⟨false, 1, 18, [.tmp 2],
  (.seq (rg false [⟨some 2, none, .mv (.k (.s []))⟩])
  (.seq (rg false [⟨some 4, none, .mv (.t 0)⟩, ⟨some 5, none, .bin .rem (.t 4) (.k (.i .u64 10))⟩, ⟨some 6, none, .bin .add (.k (.i .u64 48)) (.t 5)⟩, ⟨some 7, none, .cvi .u8 (.t 6)⟩, ⟨some 8, none, .bls 5 1 (List.replicate 1 T.u8.zc) [(0, (.t 7))]⟩, ⟨some 9, none, .cvs (.t 8)⟩, ⟨some 3, none, .mv (.t 9)⟩])
  (.seq (.seq (rg false [⟨some 10, none, .mv (.t 0)⟩, ⟨some 11, none, .bin .lss (.t 10) (.k (.i .u64 10))⟩])
  (.cond (.t 11)
   (.seq (rg false [⟨some 12, none, .mv (.t 3)⟩, ⟨some 2, none, .mv (.t 12)⟩])
   .ret)
   .skip))
  (.seq (rg false [⟨some 13, none, .mv (.t 0)⟩, ⟨some 14, none, .bin .quo (.t 13) (.k (.i .u64 10))⟩, ⟨some 15, none, .call fn_r03_Text [(.t 14)]⟩, ⟨some 16, none, .mv (.t 3)⟩, ⟨some 17, none, .bin .add (.t 15) (.t 16)⟩, ⟨some 2, none, .mv (.t 17)⟩])
  .ret))))⟩
noncomputable def c_r06_Parts_l0 : AC :=
  (.seq (.seq (rg false [⟨some 8, none, .mv (.t 7)⟩, ⟨some 9, none, .mv (.t 0)⟩, ⟨some 10, none, .lens (.t 9)⟩, ⟨some 11, none, .bin .lss (.t 8) (.t 10)⟩])
  (.cond (.t 11)
   .skip
   (.exit 0)))
  (.seq (.blk 1
   (.seq (rg false [⟨some 14, none, .mv (.t 0)⟩, ⟨some 15, none, .mv (.t 7)⟩, ⟨some 16, none, .ixs (.t 14) (.t 15)⟩, ⟨some 17, none, .mv (.t 1)⟩, ⟨some 18, none, .bin .eql (.t 16) (.t 17)⟩])
   (.cond (.t 18)
    (.seq (rg false [⟨some 19, none, .mv (.t 6)⟩, ⟨some 20, none, .mv (.t 0)⟩, ⟨some 21, none, .mv (.t 5)⟩, ⟨some 22, none, .mv (.t 7)⟩, ⟨some 23, none, .sls (.t 20) (some (.t 21)) (some (.t 22))⟩, ⟨some 24, none, .bll 1 (List.replicate 1 T.str.zc) [(0, (.t 23))]⟩, ⟨some 25, none, .app 9 1 16 (.t 19) (.t 24)⟩, ⟨some 6, none, .mv (.t 25)⟩])
    (rg false [⟨some 26, none, .mv (.t 7)⟩, ⟨some 27, none, .bin .add (.t 26) (.k (.i .i64 1))⟩, ⟨some 5, none, .mv (.t 27)⟩]))
    .skip)))
  (rg false [⟨some 12, none, .mv (.t 7)⟩, ⟨some 13, none, .bin .add (.t 12) (.k (.i .i64 1))⟩, ⟨some 7, none, .mv (.t 13)⟩])))
noncomputable def c_r06_Parts : AFn := ⟨false, 2, 34, [.tmp 4],
  (.seq (rg false [⟨some 4, none, .mv (.k (.nils))⟩])
  (.seq (rg false [⟨some 5, none, .mv (.k (.i .i64 0))⟩])
  (.seq (rg false [⟨some 6, none, .mv (.k (.nils))⟩])
  (.seq (.seq (rg false [⟨some 7, none, .mv (.k (.i .i64 0))⟩])
  (.blk 0
   (.loop [0, 1, 5, 6, 7] c_r06_Parts_l0)))
  (.seq (rg false [⟨some 28, none, .mv (.t 6)⟩, ⟨some 29, none, .mv (.t 0)⟩, ⟨some 30, none, .mv (.t 5)⟩, ⟨some 31, none, .sls (.t 29) (some (.t 30)) none⟩, ⟨some 32, none, .bll 1 (List.replicate 1 T.str.zc) [(0, (.t 31))]⟩, ⟨some 33, none, .app 9 1 16 (.t 28) (.t 32)⟩, ⟨some 4, none, .mv (.t 33)⟩])
  .ret)))))⟩
noncomputable def c_lines_Join_l0 : AC :=
  (.seq (rg false [⟨some 9, none, .bin .lss (.t 8) (.t 7)⟩])
  (.seq (.cond (.t 9)
   .skip
   (.exit 0))
  (.seq (.blk 1
   (.seq (rg false [⟨some 10, none, .ias 1 (.t 6) (.t 8)⟩, ⟨some 11, none, .ld false 1 (.t 10)⟩, ⟨some 5, none, .mv (.t 11)⟩])
   (.seq (rg false [⟨some 12, none, .mv (.t 5)⟩, ⟨some 13, none, .call fn_p_strings_Builder_WriteString [(.t 3), (.t 12)]⟩])
   (rg false [⟨some 14, none, .call fn_p_strings_Builder_WriteString [(.t 3), (.k (.s [10]))]⟩]))))
  (rg false [⟨some 15, none, .bin .add (.t 8) (.k (.i .i64 1))⟩, ⟨some 8, none, .mv (.t 15)⟩]))))
noncomputable def c_lines_Join : AFn := ⟨false, 1, 17, [.tmp 2],
  (.seq (rg false [⟨some 2, none, .mv (.k (.s []))⟩])
  (.seq (rg false [⟨some 3, none, .alloc 107 (zz [(1, .nilp), (1, .nils)])⟩])
  (.seq (.seq (rg false [⟨some 6, none, .mv (.t 0)⟩, ⟨some 7, none, .len (.t 6)⟩, ⟨some 8, none, .mv (.k (.i .i64 0))⟩])
  (.blk 0
   (.loop [3, 6, 7, 8] c_lines_Join_l0)))
  (.seq (rg false [⟨some 16, none, .call fn_p_strings_Builder_String [(.t 3)]⟩, ⟨some 2, none, .mv (.t 16)⟩])
  .ret))))⟩
noncomputable def c_view_Right_l0 : AC :=
  (.seq (rg false [⟨some 63, none, .bin .lss (.t 62) (.t 61)⟩])
  (.seq (.cond (.t 63)
   .skip
   (.exit 2))
  (.seq (.blk 3
   (.seq (rg false [⟨some 64, none, .ias 18 (.t 60) (.t 62)⟩, ⟨some 65, none, .ld true 18 (.t 64)⟩, ⟨some 8, none, .alloc 91 T_api_Prefix.zc⟩, ⟨none, none, .st 18 (.t 8) (.t 65)⟩])
   (.seq (.seq (rg false [⟨some 66, none, .mv (.t 4)⟩, ⟨some 67, none, .ld true 18 (.t 8)⟩, ⟨some 68, none, .lkp (.agg (kk [(1, .i .i64), (16, .i .u8), (1, .i .i64)])) (.b false) false (.t 66) (.t 67)⟩])
   (.cond (.t 68)
    (.seq (rg false [⟨some 2, none, .mv (.k (.b false))⟩])
    .ret)
    .skip))
   (rg false [⟨some 69, none, .mv (.t 4)⟩, ⟨some 70, none, .ld true 18 (.t 8)⟩, ⟨none, none, .mup (.agg (kk [(1, .i .i64), (16, .i .u8), (1, .i .i64)])) (.t 69) (.t 70) (.k (.b true))⟩]))))
  (rg false [⟨some 71, none, .bin .add (.t 62) (.k (.i .i64 1))⟩, ⟨some 62, none, .mv (.t 71)⟩]))))
noncomputable def c_view_Right_l1 : AC :=
  (.seq (rg false [⟨some 27, none, .bin .lss (.t 26) (.t 25)⟩])
  (.seq (.cond (.t 27)
   .skip
   (.exit 0))
  (.seq (.blk 1
   (.seq (rg false [⟨some 28, none, .ias 86 (.t 24) (.t 26)⟩, ⟨some 29, none, .ld true 86 (.t 28)⟩, ⟨some 6, none, .alloc 89 T_api_Peer.zc⟩, ⟨none, none, .st 86 (.t 6) (.t 29)⟩])
   (.seq (.seq (rg false [⟨some 30, none, .mv (.t 3)⟩, ⟨some 31, none, .fa 0 (.t 6)⟩, ⟨some 32, none, .ld true 32 (.t 31)⟩, ⟨some 33, none, .lkp (.agg (kk [(32, .i .u8)])) (.b false) false (.t 30) (.t 32)⟩, ⟨some 34, none, .mv (.t 33)⟩, ⟨some 35, some (34, false), .fa 82 (.t 6)⟩, ⟨some 36, some (34, false), .ld false 1 (.t 35)⟩, ⟨some 37, some (34, false), .call fn_view_short [(.t 36)]⟩, ⟨some 38, some (34, false), .un .not (.t 37)⟩, ⟨some 39, none, .pick (.t 34) (.k (.b true)) (.t 38)⟩, ⟨some 40, none, .mv (.t 39)⟩, ⟨some 41, some (40, false), .fa 85 (.t 6)⟩, ⟨some 42, some (40, false), .ld false 1 (.t 41)⟩, ⟨some 43, some (40, false), .call fn_view_rising [(.t 42)]⟩, ⟨some 44, some (40, false), .un .not (.t 43)⟩, ⟨some 45, none, .pick (.t 40) (.k (.b true)) (.t 44)⟩])
   (.cond (.t 45)
    (.seq (rg false [⟨some 2, none, .mv (.k (.b false))⟩])
    .ret)
    .skip))
   (.seq (.seq (rg false [⟨some 46, none, .fa 64 (.t 6)⟩, ⟨some 47, none, .ld true 18 (.t 46)⟩, ⟨some 48, none, .call fn_hostport_None [(.t 47)]⟩, ⟨some 49, none, .un .not (.t 48)⟩, ⟨some 50, none, .mv (.t 49)⟩, ⟨some 51, some (50, true), .fa 64 (.t 6)⟩, ⟨some 52, some (50, true), .ld true 18 (.t 51)⟩, ⟨some 53, some (50, true), .call fn_hostport_Right [(.t 52)]⟩, ⟨some 54, some (50, true), .un .not (.t 53)⟩, ⟨some 55, none, .pick (.t 50) (.t 54) (.k (.b false))⟩])
   (.cond (.t 55)
    (.seq (rg false [⟨some 2, none, .mv (.k (.b false))⟩])
    .ret)
    .skip))
   (.seq (rg false [⟨some 56, none, .mv (.t 3)⟩, ⟨some 57, none, .fa 0 (.t 6)⟩, ⟨some 58, none, .ld true 32 (.t 57)⟩, ⟨none, none, .mup (.agg (kk [(32, .i .u8)])) (.t 56) (.t 58) (.k (.b true))⟩])
   (.seq (rg false [⟨some 59, none, .fa 85 (.t 6)⟩, ⟨some 60, none, .ld false 1 (.t 59)⟩, ⟨some 61, none, .len (.t 60)⟩, ⟨some 62, none, .mv (.k (.i .i64 0))⟩])
   (.blk 2
    (.loop [3, 4, 24, 25, 26, 60, 61, 62] c_view_Right_l0))))))))
  (rg false [⟨some 72, none, .bin .add (.t 26) (.k (.i .i64 1))⟩, ⟨some 26, none, .mv (.t 72)⟩]))))
noncomputable def c_view_Right : AFn := ⟨false, 1, 76, [.tmp 2],
  (.seq (rg false [⟨some 1, none, .box 54 35 (.t 0)⟩, ⟨some 2, none, .mv (.k (.b false))⟩])
  (.seq (.seq (rg false [⟨some 9, none, .fa 32 (.t 1)⟩, ⟨some 10, none, .ld false 1 (.t 9)⟩, ⟨some 11, none, .call fn_view_short [(.t 10)]⟩, ⟨some 12, none, .un .not (.t 11)⟩, ⟨some 13, none, .mv (.t 12)⟩, ⟨some 14, some (13, false), .fa 34 (.t 1)⟩, ⟨some 15, some (13, false), .ld false 1 (.t 14)⟩, ⟨some 16, some (13, false), .len (.t 15)⟩, ⟨some 17, some (13, false), .bin .gtr (.t 16) (.k (.i .i64 16))⟩, ⟨some 18, none, .pick (.t 13) (.k (.b true)) (.t 17)⟩])
  (.cond (.t 18)
   (.seq (rg false [⟨some 2, none, .mv (.k (.b false))⟩])
   .ret)
   .skip))
  (.seq (rg false [⟨some 19, none, .mkm⟩, ⟨some 20, none, .bld (T.arr 32 T.u8).zc []⟩, ⟨none, none, .mup (.agg (kk [(32, .i .u8)])) (.t 19) (.t 20) (.k (.b true))⟩, ⟨some 21, none, .mv (.t 19)⟩, ⟨some 22, none, .mkm⟩, ⟨some 3, none, .mv (.t 21)⟩, ⟨some 4, none, .mv (.t 22)⟩])
  (.seq (.seq (rg false [⟨some 23, none, .fa 34 (.t 1)⟩, ⟨some 24, none, .ld false 1 (.t 23)⟩, ⟨some 25, none, .len (.t 24)⟩, ⟨some 26, none, .mv (.k (.i .i64 0))⟩])
  (.blk 0
   (.loop [3, 4, 24, 25, 26] c_view_Right_l1)))
  (.seq (rg false [⟨some 73, none, .mv (.t 4)⟩, ⟨some 74, none, .lenm (.t 73)⟩, ⟨some 75, none, .bin .leq (.t 74) (.k (.i .i64 64))⟩, ⟨some 2, none, .mv (.t 75)⟩])
  .ret)))))⟩
noncomputable def c_getres_peer_l0 : AC :=
  (.seq (rg false [⟨some 41, none, .bin .lss (.t 40) (.t 39)⟩])
  (.seq (.cond (.t 41)
   .skip
   (.exit 0))
  (.seq (.blk 1
   (.seq (rg false [⟨some 42, none, .ias 18 (.t 38) (.t 40)⟩, ⟨some 43, none, .ld true 18 (.t 42)⟩, ⟨some 5, none, .alloc 91 T_api_Prefix.zc⟩, ⟨none, none, .st 18 (.t 5) (.t 43)⟩])
   (rg false [⟨some 44, none, .mv (.t 3)⟩, ⟨some 45, none, .ld true 18 (.t 5)⟩, ⟨some 46, none, .bld T_api_Field.zc [(0, 1, (.k (.i .i64 12))), (52, 18, (.t 45))]⟩, ⟨some 47, none, .bll 70 (List.replicate 1 T_api_Field.zc) [(0, (.t 46))]⟩, ⟨some 48, none, .app 93 70 112 (.t 44) (.t 47)⟩, ⟨some 3, none, .mv (.t 48)⟩])))
  (rg false [⟨some 49, none, .bin .add (.t 40) (.k (.i .i64 1))⟩, ⟨some 40, none, .mv (.t 49)⟩]))))
noncomputable def c_getres_peer : AFn := ⟨false, 1, 51, [.tmp 2],
  (.seq (rg false [⟨some 1, none, .box 89 86 (.t 0)⟩, ⟨some 2, none, .mv (.k (.nils))⟩])
  (.seq (rg false [⟨some 6, none, .fa 0 (.t 1)⟩, ⟨some 7, none, .ld true 32 (.t 6)⟩, ⟨some 8, none, .bld T_api_Field.zc [(0, 1, (.k (.i .i64 5))), (1, 32, (.t 7))]⟩, ⟨some 9, none, .fa 32 (.t 1)⟩, ⟨some 10, none, .ld true 32 (.t 9)⟩, ⟨some 11, none, .bld T_api_Field.zc [(0, 1, (.k (.i .i64 8))), (1, 32, (.t 10))]⟩, ⟨some 12, none, .bld T_api_Field.zc [(0, 1, (.k (.i .i64 13))), (33, 1, (.k (.i .u64 1)))]⟩, ⟨some 13, none, .bls 93 70 (List.replicate 3 T_api_Field.zc) [(0, (.t 8)), (1, (.t 11)), (2, (.t 12))]⟩, ⟨some 3, none, .mv (.t 13)⟩])
  (.seq (.seq (rg false [⟨some 14, none, .fa 64 (.t 1)⟩, ⟨some 15, none, .ld true 18 (.t 14)⟩, ⟨some 16, none, .call fn_hostport_None [(.t 15)]⟩, ⟨some 17, none, .un .not (.t 16)⟩])
  (.cond (.t 17)
   (rg false [⟨some 18, none, .mv (.t 3)⟩, ⟨some 19, none, .fa 64 (.t 1)⟩, ⟨some 20, none, .ld true 18 (.t 19)⟩, ⟨some 21, none, .bld T_api_Field.zc [(0, 1, (.k (.i .i64 9))), (34, 18, (.t 20))]⟩, ⟨some 22, none, .bll 70 (List.replicate 1 T_api_Field.zc) [(0, (.t 21))]⟩, ⟨some 23, none, .app 93 70 112 (.t 18) (.t 22)⟩, ⟨some 3, none, .mv (.t 23)⟩])
   .skip))
  (.seq (rg false [⟨some 24, none, .mv (.t 3)⟩, ⟨some 25, none, .fa 83 (.t 1)⟩, ⟨some 26, none, .ld false 1 (.t 25)⟩, ⟨some 27, none, .bld T_api_Field.zc [(0, 1, (.k (.i .i64 14))), (33, 1, (.t 26))]⟩, ⟨some 28, none, .fa 84 (.t 1)⟩, ⟨some 29, none, .ld false 1 (.t 28)⟩, ⟨some 30, none, .bld T_api_Field.zc [(0, 1, (.k (.i .i64 15))), (33, 1, (.t 29))]⟩, ⟨some 31, none, .fa 82 (.t 1)⟩, ⟨some 32, none, .ld false 1 (.t 31)⟩, ⟨some 33, none, .cvi .u64 (.t 32)⟩, ⟨some 34, none, .bld T_api_Field.zc [(0, 1, (.k (.i .i64 10))), (33, 1, (.t 33))]⟩, ⟨some 35, none, .bll 70 (List.replicate 3 T_api_Field.zc) [(0, (.t 27)), (1, (.t 30)), (2, (.t 34))]⟩, ⟨some 36, none, .app 93 70 112 (.t 24) (.t 35)⟩, ⟨some 3, none, .mv (.t 36)⟩])
  (.seq (.seq (rg false [⟨some 37, none, .fa 85 (.t 1)⟩, ⟨some 38, none, .ld false 1 (.t 37)⟩, ⟨some 39, none, .len (.t 38)⟩, ⟨some 40, none, .mv (.k (.i .i64 0))⟩])
  (.blk 0
   (.loop [3, 38, 39, 40] c_getres_peer_l0)))
  (.seq (rg false [⟨some 50, none, .mv (.t 3)⟩, ⟨some 2, none, .mv (.t 50)⟩])
  .ret))))))⟩
noncomputable def c_pairline_Block_l0 : AC :=
  (.seq (rg false [⟨some 15, none, .bin .lss (.t 14) (.t 13)⟩])
  (.seq (.cond (.t 15)
   .skip
   (.exit 0))
  (.seq (.blk 1
   (.seq (rg false [⟨some 16, none, .ias 2 (.t 12) (.t 14)⟩, ⟨some 17, none, .ld true 2 (.t 16)⟩, ⟨some 6, none, .alloc 130 T_pairline_Pair.zc⟩, ⟨none, none, .st 2 (.t 6) (.t 17)⟩])
   (.seq (rg false [⟨some 19, none, .ld true 2 (.t 6)⟩, ⟨some 20, none, .call fn_pairline_Text [(.t 19)]⟩, ⟨some 18, none, .mv (.t 20)⟩, ⟨some 21, none, .ext (.t 18) 0⟩, ⟨some 22, none, .ext (.t 18) 1⟩, ⟨some 7, none, .mv (.t 21)⟩, ⟨some 8, none, .mv (.t 22)⟩])
   (.seq (.seq (rg false [⟨some 23, none, .mv (.t 8)⟩, ⟨some 24, none, .bin .neq (.t 23) (.k (.i .i64 0))⟩])
   (.cond (.t 24)
    (.seq (rg false [⟨some 25, none, .mv (.t 8)⟩, ⟨some 2, none, .mv (.k (.s []))⟩, ⟨some 3, none, .mv (.t 25)⟩])
    .ret)
    .skip))
   (rg false [⟨some 26, none, .mv (.t 4)⟩, ⟨some 27, none, .mv (.t 7)⟩, ⟨some 28, none, .bll 1 (List.replicate 1 T.str.zc) [(0, (.t 27))]⟩, ⟨some 29, none, .app 9 1 16 (.t 26) (.t 28)⟩, ⟨some 4, none, .mv (.t 29)⟩])))))
  (rg false [⟨some 30, none, .bin .add (.t 14) (.k (.i .i64 1))⟩, ⟨some 14, none, .mv (.t 30)⟩]))))
noncomputable def c_pairline_Block : AFn := ⟨false, 1, 35, [.tmp 2, .tmp 3],
  (.seq (rg false [⟨some 2, none, .mv (.k (.s []))⟩, ⟨some 3, none, .mv (.k (.i .i64 0))⟩])
  (.seq (.seq (rg false [⟨some 9, none, .mv (.t 0)⟩, ⟨some 10, none, .len (.t 9)⟩, ⟨some 11, none, .bin .gtr (.t 10) (.k (.i .i64 400))⟩])
  (.cond (.t 11)
   (.seq (rg false [⟨some 2, none, .mv (.k (.s []))⟩, ⟨some 3, none, .mv (.k (.i .i64 4))⟩])
   .ret)
   .skip))
  (.seq (rg false [⟨some 4, none, .mv (.k (.nils))⟩])
  (.seq (.seq (rg false [⟨some 12, none, .mv (.t 0)⟩, ⟨some 13, none, .len (.t 12)⟩, ⟨some 14, none, .mv (.k (.i .i64 0))⟩])
  (.blk 0
   (.loop [4, 12, 13, 14] c_pairline_Block_l0)))
  (.seq (rg false [⟨some 31, none, .mv (.t 4)⟩, ⟨some 32, none, .bll 1 (List.replicate 1 T.str.zc) [(0, (.k (.s [])))]⟩, ⟨some 33, none, .app 9 1 16 (.t 31) (.t 32)⟩, ⟨some 34, none, .call fn_lines_Join [(.t 33)]⟩, ⟨some 2, none, .mv (.t 34)⟩, ⟨some 3, none, .mv (.k (.i .i64 0))⟩])
  .ret)))))⟩
noncomputable def c_getres_pairs_l0 : AC :=
  (.seq (rg false [⟨some 11, none, .bin .lss (.t 10) (.t 9)⟩])
  (.seq (.cond (.t 11)
   .skip
   (.exit 0))
  (.seq (.blk 1
   (.seq (rg false [⟨some 12, none, .ias 70 (.t 8) (.t 10)⟩, ⟨some 13, none, .ld true 70 (.t 12)⟩, ⟨some 5, none, .alloc 93 T_api_Field.zc⟩, ⟨none, none, .st 70 (.t 5) (.t 13)⟩])
   (.seq (rg false [⟨some 15, none, .ld true 70 (.t 5)⟩, ⟨some 16, none, .call fn_field_Pair [(.t 15)]⟩, ⟨some 14, none, .mv (.t 16)⟩, ⟨some 17, none, .ext (.t 14) 0⟩, ⟨some 18, none, .ext (.t 14) 1⟩, ⟨some 6, none, .alloc 130 T_pairline_Pair.zc⟩, ⟨none, none, .st 2 (.t 6) (.t 17)⟩, ⟨some 7, none, .mv (.t 18)⟩])
   (rg false [⟨some 19, none, .mv (.t 3)⟩, ⟨some 20, none, .ld true 2 (.t 6)⟩, ⟨some 21, none, .bll 2 (List.replicate 1 T_pairline_Pair.zc) [(0, (.t 20))]⟩, ⟨some 22, none, .app 130 2 32 (.t 19) (.t 21)⟩, ⟨some 3, none, .mv (.t 22)⟩]))))
  (rg false [⟨some 23, none, .bin .add (.t 10) (.k (.i .i64 1))⟩, ⟨some 10, none, .mv (.t 23)⟩]))))
noncomputable def c_getres_pairs : AFn := ⟨false, 1, 25, [.tmp 2],
  (.seq (rg false [⟨some 2, none, .mv (.k (.nils))⟩])
  (.seq (rg false [⟨some 3, none, .mv (.k (.nils))⟩])
  (.seq (.seq (rg false [⟨some 8, none, .mv (.t 0)⟩, ⟨some 9, none, .len (.t 8)⟩, ⟨some 10, none, .mv (.k (.i .i64 0))⟩])
  (.blk 0
   (.loop [3, 8, 9, 10] c_getres_pairs_l0)))
  (.seq (rg false [⟨some 24, none, .mv (.t 3)⟩, ⟨some 2, none, .mv (.t 24)⟩])
  .ret))))⟩
noncomputable def c_p_strings_Builder_WriteString : AFn := ⟨false, 2, 19, [.tmp 4, .tmp 5],
  (.seq (rg false [⟨some 4, none, .mv (.k (.i .i64 0))⟩, ⟨some 5, none, .mv (.k (.nili))⟩])
  (.seq (rg false [⟨some 6, none, .mv (.t 0)⟩, ⟨some 7, none, .call fn_p_strings_Builder_copyCheck [(.t 6)]⟩])
  (.seq (rg false [⟨some 8, none, .mv (.t 0)⟩, ⟨some 9, none, .mv (.t 0)⟩, ⟨some 10, none, .nilc (.t 9)⟩, ⟨some 11, none, .fa 1 (.t 10)⟩, ⟨some 12, none, .ld false 1 (.t 11)⟩, ⟨some 13, none, .mv (.t 1)⟩, ⟨some 14, none, .app 5 1 1 (.t 12) (.t 13)⟩, ⟨some 15, none, .nilc (.t 8)⟩, ⟨some 16, none, .fa 1 (.t 15)⟩, ⟨none, none, .st 1 (.t 16) (.t 14)⟩])
  (.seq (rg false [⟨some 17, none, .mv (.t 1)⟩, ⟨some 18, none, .lens (.t 17)⟩, ⟨some 4, none, .mv (.t 18)⟩, ⟨some 5, none, .mv (.k (.nili))⟩])
  .ret))))⟩
noncomputable def c_p_strings_Builder_String : AFn := ⟨false, 1, 14, [.tmp 2],
  (.seq (rg false [⟨some 2, none, .mv (.k (.s []))⟩])
  (.seq (.regd [⟨some 3, none, .mv (.t 0)⟩, ⟨some 4, none, .nilc (.t 3)⟩, ⟨some 5, none, .fa 1 (.t 4)⟩, ⟨some 6, none, .ld false 1 (.t 5)⟩, ⟨some 7, none, .usd (.t 6)⟩, ⟨some 8, none, .mv (.t 0)⟩, ⟨some 9, none, .nilc (.t 8)⟩, ⟨some 10, none, .fa 1 (.t 9)⟩, ⟨some 11, none, .ld false 1 (.t 10)⟩, ⟨some 12, none, .len (.t 11)⟩, ⟨some 13, none, .ust 5 (.t 7) (.t 12)⟩, ⟨some 2, none, .mv (.t 13)⟩] [some (0, 0), some (0, 0), some (0, 0), some (0, 0), some (0, 0), some (0, 0), some (0, 0), some (0, 0), some (0, 0), some (0, 0), none, some (1, 1)])
  .ret))⟩
noncomputable def c_view_short : AFn := ⟨false, 1, 9, [.tmp 2],
  (.seq (rg false [⟨some 2, none, .mv (.k (.b false))⟩])
  (.seq (rg false [⟨some 3, none, .mv (.t 0)⟩, ⟨some 4, none, .bin .geq (.t 3) (.k (.i .i64 0))⟩, ⟨some 5, none, .mv (.t 4)⟩, ⟨some 6, some (5, true), .mv (.t 0)⟩, ⟨some 7, some (5, true), .bin .leq (.t 6) (.k (.i .i64 65535))⟩, ⟨some 8, none, .pick (.t 5) (.t 7) (.k (.b false))⟩, ⟨some 2, none, .mv (.t 8)⟩])
  .ret))⟩
noncomputable def c_view_rising_l0 : AC :=
  (.seq (rg false [⟨some 8, none, .bin .lss (.t 7) (.t 6)⟩])
  (.seq (.cond (.t 8)
   .skip
   (.exit 0))
  (.seq (.blk 1
   (.seq (rg false [⟨some 9, none, .mv (.t 7)⟩, ⟨some 10, none, .ias 18 (.t 5) (.t 7)⟩, ⟨some 11, none, .ld true 18 (.t 10)⟩, ⟨some 4, none, .alloc 91 T_api_Prefix.zc⟩, ⟨some 3, none, .mv (.t 9)⟩, ⟨none, none, .st 18 (.t 4) (.t 11)⟩])
   (.seq (rg true [⟨some 12, none, .ld true 18 (.t 4)⟩, ⟨some 13, none, .call fn_cidr_Right [(.t 12)]⟩, ⟨some 14, none, .un .not (.t 13)⟩, ⟨some 15, none, .mv (.t 14)⟩, ⟨some 16, some (15, false), .mv (.t 3)⟩, ⟨some 17, some (15, false), .bin .gtr (.t 16) (.k (.i .i64 0))⟩, ⟨some 18, some (15, false), .mv (.t 17)⟩, ⟨some 19, some (18, true), .mv (.t 0)⟩, ⟨some 20, some (18, true), .mv (.t 3)⟩, ⟨some 21, some (18, true), .bin .sub (.t 20) (.k (.i .i64 1))⟩, ⟨some 22, some (18, true), .ias 18 (.t 19) (.t 21)⟩, ⟨some 23, some (18, true), .ld true 18 (.t 22)⟩, ⟨some 24, some (18, true), .ld true 18 (.t 4)⟩, ⟨some 25, some (18, true), .call fn_cidr_Less [(.t 23), (.t 24)]⟩, ⟨some 26, some (18, true), .un .not (.t 25)⟩, ⟨some 27, some (15, false), .pick (.t 18) (.t 26) (.k (.b false))⟩, ⟨some 28, none, .pick (.t 15) (.k (.b true)) (.t 27)⟩])
   (.cond (.t 28)
    (.seq (rg false [⟨some 2, none, .mv (.k (.b false))⟩])
    .ret)
    .skip))))
  (rg false [⟨some 29, none, .bin .add (.t 7) (.k (.i .i64 1))⟩, ⟨some 7, none, .mv (.t 29)⟩]))))
noncomputable def c_view_rising : AFn := ⟨false, 1, 30, [.tmp 2],
  (.seq (rg false [⟨some 2, none, .mv (.k (.b false))⟩])
  (.seq (.seq (rg false [⟨some 5, none, .mv (.t 0)⟩, ⟨some 6, none, .len (.t 5)⟩, ⟨some 7, none, .mv (.k (.i .i64 0))⟩])
  (.blk 0
   (.loop [0, 5, 6, 7] c_view_rising_l0)))
  (.seq (rg false [⟨some 2, none, .mv (.k (.b true))⟩])
  .ret)))⟩
noncomputable def c_hostport_None : AFn := ⟨false, 1, 6, [.tmp 2],
  (.seq (rg false [⟨some 1, none, .box 27 18 (.t 0)⟩, ⟨some 2, none, .mv (.k (.b false))⟩])
  (.seq (rg false [⟨some 3, none, .ld true 18 (.t 1)⟩, ⟨some 4, none, .bld T_api_Endpoint.zc []⟩, ⟨some 5, none, .eq false (.agg (kk [(1, .i .i64), (16, .i .u8), (1, .i .i64)])) (.t 3) (.t 4)⟩, ⟨some 2, none, .mv (.t 5)⟩])
  .ret))⟩
noncomputable def c_hostport_Right : AFn := ⟨false, 1, 16, [.tmp 2],
  (.seq (rg false [⟨some 1, none, .box 27 18 (.t 0)⟩, ⟨some 2, none, .mv (.k (.b false))⟩])
  (.seq (rg false [⟨some 3, none, .fa 0 (.t 1)⟩, ⟨some 4, none, .ld true 17 (.t 3)⟩, ⟨some 5, none, .call fn_addr_Right [(.t 4)]⟩, ⟨some 6, none, .mv (.t 5)⟩, ⟨some 7, some (6, true), .fa 17 (.t 1)⟩, ⟨some 8, some (6, true), .ld false 1 (.t 7)⟩, ⟨some 9, some (6, true), .bin .geq (.t 8) (.k (.i .i64 1))⟩, ⟨some 10, none, .pick (.t 6) (.t 9) (.k (.b false))⟩, ⟨some 11, none, .mv (.t 10)⟩, ⟨some 12, some (11, true), .fa 17 (.t 1)⟩, ⟨some 13, some (11, true), .ld false 1 (.t 12)⟩, ⟨some 14, some (11, true), .bin .leq (.t 13) (.k (.i .i64 65535))⟩, ⟨some 15, none, .pick (.t 11) (.t 14) (.k (.b false))⟩, ⟨some 2, none, .mv (.t 15)⟩])
  .ret))⟩
noncomputable def c_pairline_Text : AFn := ⟨false, 1, 28, [.tmp 2, .tmp 3],
  (.seq (rg false [⟨some 1, none, .box 130 2 (.t 0)⟩, ⟨some 2, none, .mv (.k (.s []))⟩, ⟨some 3, none, .mv (.k (.i .i64 0))⟩])
  (.seq (.seq (rg false [⟨some 5, none, .fa 0 (.t 1)⟩, ⟨some 6, none, .ld false 1 (.t 5)⟩, ⟨some 7, none, .bin .eql (.t 6) (.k (.s []))⟩, ⟨some 8, none, .mv (.t 7)⟩, ⟨some 9, some (8, false), .fa 0 (.t 1)⟩, ⟨some 10, some (8, false), .ld false 1 (.t 9)⟩, ⟨some 11, some (8, false), .call fn_strings_ContainsAny [(.t 10), (.k (.s [61, 10]))]⟩, ⟨some 12, none, .pick (.t 8) (.k (.b true)) (.t 11)⟩, ⟨some 13, none, .mv (.t 12)⟩, ⟨some 14, some (13, false), .fa 1 (.t 1)⟩, ⟨some 15, some (13, false), .ld false 1 (.t 14)⟩, ⟨some 16, some (13, false), .call fn_strings_Contains [(.t 15), (.k (.s [10]))]⟩, ⟨some 17, none, .pick (.t 13) (.k (.b true)) (.t 16)⟩])
  (.cond (.t 17)
   (.seq (rg false [⟨some 2, none, .mv (.k (.s []))⟩, ⟨some 3, none, .mv (.k (.i .i64 5))⟩])
   .ret)
   .skip))
  (.seq (rg false [⟨some 18, none, .fa 0 (.t 1)⟩, ⟨some 19, none, .ld false 1 (.t 18)⟩, ⟨some 20, none, .bin .add (.t 19) (.k (.s [61]))⟩, ⟨some 21, none, .fa 1 (.t 1)⟩, ⟨some 22, none, .ld false 1 (.t 21)⟩, ⟨some 23, none, .bin .add (.t 20) (.t 22)⟩, ⟨some 4, none, .mv (.t 23)⟩])
  (.seq (.seq (rg false [⟨some 24, none, .mv (.t 4)⟩, ⟨some 25, none, .lens (.t 24)⟩, ⟨some 26, none, .bin .gtr (.t 25) (.k (.i .i64 512))⟩])
  (.cond (.t 26)
   (.seq (rg false [⟨some 2, none, .mv (.k (.s []))⟩, ⟨some 3, none, .mv (.k (.i .i64 4))⟩])
   .ret)
   .skip))
  (.seq (rg false [⟨some 27, none, .mv (.t 4)⟩, ⟨some 2, none, .mv (.t 27)⟩, ⟨some 3, none, .mv (.k (.i .i64 0))⟩])
  .ret)))))⟩
noncomputable def c_field_Pair : AFn := ⟨false, 1, 24, [.cell true 2 2, .tmp 3],
  (.seq (rg false [⟨some 1, none, .box 93 70 (.t 0)⟩, ⟨some 2, none, .alloc 130 T_pairline_Pair.zc⟩, ⟨some 3, none, .mv (.k (.i .i64 0))⟩])
  (.seq (.seq (rg false [⟨some 6, none, .ld true 70 (.t 1)⟩, ⟨some 7, none, .call fn_field_Right [(.t 6)]⟩, ⟨some 8, none, .un .not (.t 7)⟩])
  (.cond (.t 8)
   (.seq (rg false [⟨some 9, none, .bld T_pairline_Pair.zc []⟩, ⟨none, none, .st 2 (.t 2) (.t 9)⟩, ⟨some 3, none, .mv (.k (.i .i64 1))⟩])
   .ret)
   .skip))
  (.seq (.regd [⟨some 11, none, .fa 0 (.t 1)⟩, ⟨some 12, none, .ld false 1 (.t 11)⟩, ⟨some 13, none, .call fn_field_shapeOf [(.t 12)]⟩, ⟨some 14, none, .fld false 1 1 (.t 13)⟩, ⟨some 15, none, .ld true 70 (.t 1)⟩, ⟨some 16, none, .callv (.t 14) [(.t 15)]⟩, ⟨some 10, none, .mv (.t 16)⟩, ⟨some 17, none, .ext (.t 10) 0⟩, ⟨some 18, none, .ext (.t 10) 1⟩, ⟨some 4, none, .mv (.t 17)⟩, ⟨some 5, none, .mv (.t 18)⟩] [some (0, 0), some (0, 0), none, some (1, 1), some (0, 1), none, some (2, 2), some (2, 2), some (2, 2), some (2, 2), some (2, 2)])
  (.seq (rg false [⟨some 19, none, .fa 0 (.t 1)⟩, ⟨some 20, none, .ld false 1 (.t 19)⟩, ⟨some 21, none, .call fn_field_Name [(.t 20)]⟩, ⟨some 22, none, .mv (.t 4)⟩, ⟨some 23, none, .bld T_pairline_Pair.zc [(0, 1, (.t 21)), (1, 1, (.t 22))]⟩, ⟨none, none, .st 2 (.t 2) (.t 23)⟩, ⟨some 3, none, .mv (.k (.i .i64 0))⟩])
  .ret))))⟩
noncomputable def c_hexes_Encode_l0 : AC :=
  (.seq (rg false [⟨some 9, none, .bin .lss (.t 8) (.t 7)⟩])
  (.seq (.cond (.t 9)
   .skip
   (.exit 0))
  (.seq (.blk 1
   (.seq (rg false [⟨some 10, none, .ias 1 (.t 6) (.t 8)⟩, ⟨some 11, none, .ld false 1 (.t 10)⟩, ⟨some 5, none, .mv (.t 11)⟩])
   (.seq (rg false [⟨some 12, none, .mv (.t 5)⟩, ⟨some 13, none, .bin .shr (.t 12) (.k (.i .u64 4))⟩, ⟨some 14, none, .ixs (.k (.s [48, 49, 50, 51, 52, 53, 54, 55, 56, 57, 97, 98, 99, 100, 101, 102])) (.t 13)⟩, ⟨some 15, none, .call fn_p_strings_Builder_WriteByte [(.t 3), (.t 14)]⟩])
   (rg false [⟨some 16, none, .mv (.t 5)⟩, ⟨some 17, none, .bin .and (.t 16) (.k (.i .u8 15))⟩, ⟨some 18, none, .ixs (.k (.s [48, 49, 50, 51, 52, 53, 54, 55, 56, 57, 97, 98, 99, 100, 101, 102])) (.t 17)⟩, ⟨some 19, none, .call fn_p_strings_Builder_WriteByte [(.t 3), (.t 18)]⟩]))))
  (rg false [⟨some 20, none, .bin .add (.t 8) (.k (.i .i64 1))⟩, ⟨some 8, none, .mv (.t 20)⟩]))))
noncomputable def c_hexes_Encode : AFn := ⟨false, 1, 22, [.tmp 2],
  (.seq (rg false [⟨some 2, none, .mv (.k (.s []))⟩])
  (.seq (rg false [⟨some 3, none, .alloc 107 (zz [(1, .nilp), (1, .nils)])⟩])
  (.seq (.seq (rg false [⟨some 6, none, .mv (.t 0)⟩, ⟨some 7, none, .len (.t 6)⟩, ⟨some 8, none, .mv (.k (.i .i64 0))⟩])
  (.blk 0
   (.loop [3, 6, 7, 8] c_hexes_Encode_l0)))
  (.seq (rg false [⟨some 21, none, .call fn_p_strings_Builder_String [(.t 3)]⟩, ⟨some 2, none, .mv (.t 21)⟩])
  .ret))))⟩
noncomputable def c_keys_Hex : AFn := ⟨false, 1, 5, [.tmp 2],
  (.seq (rg false [⟨some 1, none, .box 29 32 (.t 0)⟩, ⟨some 2, none, .mv (.k (.s []))⟩])
  (.seq (rg false [⟨some 3, none, .sla 32 1 (.t 1) none none⟩, ⟨some 4, none, .call fn_hexes_Encode [(.t 3)]⟩, ⟨some 2, none, .mv (.t 4)⟩])
  .ret))⟩
noncomputable def c_decimal_Text : AFn := ⟨false, 1, 5, [.tmp 2],
  (.seq (rg false [⟨some 2, none, .mv (.k (.s []))⟩])
  (.seq (rg false [⟨some 3, none, .mv (.t 0)⟩, ⟨some 4, none, .call fn_strconv_FormatUint [(.t 3), (.k (.i .i64 10))]⟩, ⟨some 2, none, .mv (.t 4)⟩])
  .ret))⟩
noncomputable def c_p_strings_Builder_copyCheck : AFn := ⟨false, 1, 20, [],
  (.seq (rg false [⟨some 2, none, .mv (.t 0)⟩, ⟨some 3, none, .nilc (.t 2)⟩, ⟨some 4, none, .fa 0 (.t 3)⟩, ⟨some 5, none, .ld false 1 (.t 4)⟩, ⟨some 6, none, .eq false .p (.t 5) (.k (.nilp))⟩])
  (.cond (.t 6)
   (rg false [⟨some 7, none, .mv (.t 0)⟩, ⟨some 8, none, .mv (.t 0)⟩, ⟨some 9, none, .cvp (.t 8)⟩, ⟨some 10, none, .call fn_internal_abi_NoEscape [(.t 9)]⟩, ⟨some 11, none, .cvu 107 2 (.t 10)⟩, ⟨some 12, none, .nilc (.t 7)⟩, ⟨some 13, none, .fa 0 (.t 12)⟩, ⟨none, none, .st 1 (.t 13) (.t 11)⟩])
   (.seq (rg false [⟨some 14, none, .mv (.t 0)⟩, ⟨some 15, none, .nilc (.t 14)⟩, ⟨some 16, none, .fa 0 (.t 15)⟩, ⟨some 17, none, .ld false 1 (.t 16)⟩, ⟨some 18, none, .mv (.t 0)⟩, ⟨some 19, none, .eqp true (.t 17) (.t 18)⟩])
   (.cond (.t 19)
    .stop
    .skip))))⟩
noncomputable def c_strings_IndexByte : AFn := ⟨false, 2, 8, [.tmp 4],
  (.seq (rg false [⟨some 4, none, .mv (.k (.i .i64 0))⟩])
  (.seq (rg false [⟨some 5, none, .mv (.t 0)⟩, ⟨some 6, none, .mv (.t 1)⟩, ⟨some 7, none, .call fn_internal_stringslite_IndexByte [(.t 5), (.t 6)]⟩, ⟨some 4, none, .mv (.t 7)⟩])
  .ret))⟩
noncomputable def c_cidr_Right : AFn := ⟨false, 1, 20, [.tmp 2],
  (.seq (rg false [⟨some 1, none, .box 91 18 (.t 0)⟩, ⟨some 2, none, .mv (.k (.b false))⟩])
  (.seq (rg false [⟨some 6, none, .fa 0 (.t 1)⟩, ⟨some 7, none, .ld true 17 (.t 6)⟩, ⟨some 8, none, .fa 17 (.t 1)⟩, ⟨some 9, none, .ld false 1 (.t 8)⟩, ⟨some 10, none, .call fn_cidr_Of [(.t 7), (.t 9)]⟩, ⟨some 5, none, .mv (.t 10)⟩, ⟨some 11, none, .ext (.t 5) 0⟩, ⟨some 12, none, .ext (.t 5) 1⟩, ⟨some 3, none, .alloc 91 T_api_Prefix.zc⟩, ⟨none, none, .st 18 (.t 3) (.t 11)⟩, ⟨some 4, none, .mv (.t 12)⟩])
  (.seq (rg false [⟨some 13, none, .mv (.t 4)⟩, ⟨some 14, none, .bin .eql (.t 13) (.k (.i .i64 0))⟩, ⟨some 15, none, .mv (.t 14)⟩, ⟨some 16, some (15, true), .ld true 18 (.t 3)⟩, ⟨some 17, some (15, true), .ld true 18 (.t 1)⟩, ⟨some 18, some (15, true), .eq false (.agg (kk [(1, .i .i64), (16, .i .u8), (1, .i .i64)])) (.t 16) (.t 17)⟩, ⟨some 19, none, .pick (.t 15) (.t 18) (.k (.b false))⟩, ⟨some 2, none, .mv (.t 19)⟩])
  .ret)))⟩
noncomputable def c_cidr_Less : AFn := ⟨false, 2, 20, [.tmp 4],
  (.seq (rg false [⟨some 2, none, .box 91 18 (.t 0)⟩, ⟨some 3, none, .box 91 18 (.t 1)⟩, ⟨some 4, none, .mv (.k (.b false))⟩])
  (.seq (.seq (rg false [⟨some 5, none, .fa 0 (.t 2)⟩, ⟨some 6, none, .ld true 17 (.t 5)⟩, ⟨some 7, none, .fa 0 (.t 3)⟩, ⟨some 8, none, .ld true 17 (.t 7)⟩, ⟨some 9, none, .eq false (.agg (kk [(1, .i .i64), (16, .i .u8)])) (.t 6) (.t 8)⟩])
  (.cond (.t 9)
   (.seq (rg false [⟨some 10, none, .fa 17 (.t 2)⟩, ⟨some 11, none, .ld false 1 (.t 10)⟩, ⟨some 12, none, .fa 17 (.t 3)⟩, ⟨some 13, none, .ld false 1 (.t 12)⟩, ⟨some 14, none, .bin .lss (.t 11) (.t 13)⟩, ⟨some 4, none, .mv (.t 14)⟩])
   .ret)
   .skip))
  (.seq (rg false [⟨some 15, none, .fa 0 (.t 2)⟩, ⟨some 16, none, .ld true 17 (.t 15)⟩, ⟨some 17, none, .fa 0 (.t 3)⟩, ⟨some 18, none, .ld true 17 (.t 17)⟩, ⟨some 19, none, .call fn_addr_Less [(.t 16), (.t 18)]⟩, ⟨some 4, none, .mv (.t 19)⟩])
  .ret)))⟩
noncomputable def c_addr_Right : AFn := ⟨false, 1, 20, [.tmp 2],
  (.seq (rg false [⟨some 1, none, .box 25 17 (.t 0)⟩, ⟨some 2, none, .mv (.k (.b false))⟩])
  (.seq (rg true [⟨some 3, none, .fa 0 (.t 1)⟩, ⟨some 4, none, .ld false 1 (.t 3)⟩, ⟨some 5, none, .bin .eql (.t 4) (.k (.i .i64 6))⟩, ⟨some 6, none, .mv (.t 5)⟩, ⟨some 7, some (6, false), .fa 0 (.t 1)⟩, ⟨some 8, some (6, false), .ld false 1 (.t 7)⟩, ⟨some 9, some (6, false), .bin .eql (.t 8) (.k (.i .i64 4))⟩, ⟨some 10, some (6, false), .mv (.t 9)⟩, ⟨some 11, some (10, true), .ld true 17 (.t 1)⟩, ⟨some 12, some (10, true), .fa 1 (.t 1)⟩, ⟨some 13, some (10, true), .sla 16 1 (.t 12) none (some (.k (.i .i64 4)))⟩, ⟨some 14, some (10, true), .s2a 4 1 (.t 13)⟩, ⟨some 15, some (10, true), .ld true 4 (.t 14)⟩, ⟨some 16, some (10, true), .call fn_addr_Four [(.t 15)]⟩, ⟨some 17, some (10, true), .eq false (.agg (kk [(1, .i .i64), (16, .i .u8)])) (.t 11) (.t 16)⟩, ⟨some 18, some (6, false), .pick (.t 10) (.t 17) (.k (.b false))⟩, ⟨some 19, none, .pick (.t 6) (.k (.b true)) (.t 18)⟩, ⟨some 2, none, .mv (.t 19)⟩])
  .ret))⟩
noncomputable def c_strings_ContainsAny : AFn := ⟨false, 2, 9, [.tmp 4],
  (.seq (rg false [⟨some 4, none, .mv (.k (.b false))⟩])
  (.seq (rg false [⟨some 5, none, .mv (.t 0)⟩, ⟨some 6, none, .mv (.t 1)⟩, ⟨some 7, none, .call fn_strings_IndexAny [(.t 5), (.t 6)]⟩, ⟨some 8, none, .bin .geq (.t 7) (.k (.i .i64 0))⟩, ⟨some 4, none, .mv (.t 8)⟩])
  .ret))⟩
noncomputable def c_strings_Contains : AFn := ⟨false, 2, 9, [.tmp 4],
  (.seq (rg false [⟨some 4, none, .mv (.k (.b false))⟩])
  (.seq (rg false [⟨some 5, none, .mv (.t 0)⟩, ⟨some 6, none, .mv (.t 1)⟩, ⟨some 7, none, .call fn_strings_Index [(.t 5), (.t 6)]⟩, ⟨some 8, none, .bin .geq (.t 7) (.k (.i .i64 0))⟩, ⟨some 4, none, .mv (.t 8)⟩])
  .ret))⟩
noncomputable def c_field_Right : AFn := ⟨false, 1, 31, [.tmp 2],
  (.seq (rg false [⟨some 1, none, .box 93 70 (.t 0)⟩, ⟨some 2, none, .mv (.k (.b false))⟩])
  (.seq (.seq (rg false [⟨some 6, none, .fa 0 (.t 1)⟩, ⟨some 7, none, .ld false 1 (.t 6)⟩, ⟨some 8, none, .call fn_field_Name [(.t 7)]⟩, ⟨some 9, none, .bin .eql (.t 8) (.k (.s []))⟩])
  (.cond (.t 9)
   (.seq (rg false [⟨some 2, none, .mv (.k (.b false))⟩])
   .ret)
   .skip))
  (.seq (rg false [⟨some 10, none, .fa 0 (.t 1)⟩, ⟨some 11, none, .ld false 1 (.t 10)⟩, ⟨some 12, none, .call fn_field_shapeOf [(.t 11)]⟩, ⟨some 3, none, .alloc 168 (zz [(3, .nilf)])⟩, ⟨none, none, .st 3 (.t 3) (.t 12)⟩])
  (.seq (rg false [⟨some 14, none, .fa 1 (.t 3)⟩, ⟨some 15, none, .ld false 1 (.t 14)⟩, ⟨some 16, none, .ld true 70 (.t 1)⟩, ⟨some 17, none, .callv (.t 15) [(.t 16)]⟩, ⟨some 13, none, .mv (.t 17)⟩, ⟨some 18, none, .ext (.t 13) 0⟩, ⟨some 19, none, .ext (.t 13) 1⟩, ⟨some 4, none, .mv (.t 18)⟩, ⟨some 5, none, .mv (.t 19)⟩])
  (.seq (.regd [⟨some 20, none, .mv (.t 5)⟩, ⟨some 21, none, .mv (.t 20)⟩, ⟨some 22, some (21, true), .fa 2 (.t 3)⟩, ⟨some 23, some (21, true), .ld false 1 (.t 22)⟩, ⟨some 24, some (21, true), .ld true 70 (.t 1)⟩, ⟨some 25, some (21, true), .callv (.t 23) [(.t 24)]⟩, ⟨some 26, some (21, true), .fa 0 (.t 1)⟩, ⟨some 27, some (21, true), .ld false 1 (.t 26)⟩, ⟨some 28, some (21, true), .bld T_api_Field.zc [(0, 1, (.t 27))]⟩, ⟨some 29, some (21, true), .eq false (.agg (kk [(1, .i .i64), (32, .i .u8), (1, .i .u64), (1, .i .i64), (16, .i .u8), (2, .i .i64), (16, .i .u8), (1, .i .i64)])) (.t 25) (.t 28)⟩, ⟨some 30, none, .pick (.t 21) (.t 29) (.k (.b false))⟩, ⟨some 2, none, .mv (.t 30)⟩] [some (0, 0), some (0, 0), some (0, 0), some (0, 0), some (0, 0), none, some (0, 1), some (0, 1), some (0, 1), some (1, 1), some (1, 1), some (1, 1)])
  .ret)))))⟩
noncomputable def c_field_shapeOf : AFn := ⟨true, 1, 33, [.cell true 3 2],
  (.seq (rg false [⟨some 2, none, .alloc 168 (zz [(3, .nilf)])⟩])
  (.seq (.seq (rg false [⟨some 3, none, .mv (.t 0)⟩])
  (.blk 0
   (.seq (.seq (rg false [⟨some 5, none, .bin .eql (.t 3) (.k (.i .i64 1))⟩, ⟨some 4, none, .mv (.t 5)⟩])
   (.cond (.t 4)
    .skip
    (.seq (rg false [⟨some 6, none, .bin .eql (.t 3) (.k (.i .i64 5))⟩, ⟨some 4, none, .mv (.t 6)⟩])
    (.cond (.t 4)
     .skip
     (rg false [⟨some 7, none, .bin .eql (.t 3) (.k (.i .i64 8))⟩, ⟨some 4, none, .mv (.t 7)⟩])))))
   (.cond (.t 4)
    (.seq (rg false [⟨some 8, none, .call fn_field_keyed []⟩, ⟨none, none, .st 3 (.t 2) (.t 8)⟩])
    .ret)
    (.seq (rg false [⟨some 10, none, .bin .eql (.t 3) (.k (.i .i64 9))⟩, ⟨some 9, none, .mv (.t 10)⟩])
    (.cond (.t 9)
     (.seq (rg false [⟨some 11, none, .call fn_field_ended []⟩, ⟨none, none, .st 3 (.t 2) (.t 11)⟩])
     .ret)
     (.seq (rg false [⟨some 13, none, .bin .eql (.t 3) (.k (.i .i64 12))⟩, ⟨some 12, none, .mv (.t 13)⟩])
     (.cond (.t 12)
      (.seq (rg false [⟨some 14, none, .call fn_field_allowed []⟩, ⟨none, none, .st 3 (.t 2) (.t 14)⟩])
      .ret)
      (.seq (.seq (rg false [⟨some 16, none, .bin .eql (.t 3) (.k (.i .i64 2))⟩, ⟨some 15, none, .mv (.t 16)⟩])
      (.cond (.t 15)
       .skip
       (rg false [⟨some 17, none, .bin .eql (.t 3) (.k (.i .i64 10))⟩, ⟨some 15, none, .mv (.t 17)⟩])))
      (.cond (.t 15)
       (.seq (rg false [⟨some 18, none, .call fn_field_counted [(.k (.i .u64 0)), (.k (.i .u64 65535))]⟩, ⟨none, none, .st 3 (.t 2) (.t 18)⟩])
       .ret)
       (.seq (rg false [⟨some 20, none, .bin .eql (.t 3) (.k (.i .i64 3))⟩, ⟨some 19, none, .mv (.t 20)⟩])
       (.cond (.t 19)
        (.seq (rg false [⟨some 21, none, .call fn_field_counted [(.k (.i .u64 0)), (.k (.i .u64 4294967295))]⟩, ⟨none, none, .st 3 (.t 2) (.t 21)⟩])
        .ret)
        (.seq (rg false [⟨some 23, none, .bin .eql (.t 3) (.k (.i .i64 13))⟩, ⟨some 22, none, .mv (.t 23)⟩])
        (.cond (.t 22)
         (.seq (rg false [⟨some 24, none, .call fn_field_counted [(.k (.i .u64 1)), (.k (.i .u64 1))]⟩, ⟨none, none, .st 3 (.t 2) (.t 24)⟩])
         .ret)
         (.seq (.seq (rg false [⟨some 26, none, .bin .eql (.t 3) (.k (.i .i64 14))⟩, ⟨some 25, none, .mv (.t 26)⟩])
         (.cond (.t 25)
          .skip
          (rg false [⟨some 27, none, .bin .eql (.t 3) (.k (.i .i64 15))⟩, ⟨some 25, none, .mv (.t 27)⟩])))
         (.cond (.t 25)
          (.seq (rg false [⟨some 28, none, .call fn_field_counted [(.k (.i .u64 0)), (.k (.i .u64 18446744073709551615))]⟩, ⟨none, none, .st 3 (.t 2) (.t 28)⟩])
          .ret)
          (.seq (rg false [⟨some 30, none, .bin .eql (.t 3) (.k (.i .i64 16))⟩, ⟨some 29, none, .mv (.t 30)⟩])
          (.cond (.t 29)
           (.seq (rg false [⟨some 31, none, .call fn_field_counted [(.k (.i .u64 0)), (.k (.i .u64 20))]⟩, ⟨none, none, .st 3 (.t 2) (.t 31)⟩])
           .ret)
           .skip))))))))))))))))))
  (.seq (rg false [⟨some 32, none, .call fn_field_said []⟩, ⟨none, none, .st 3 (.t 2) (.t 32)⟩])
  .ret)))⟩
noncomputable def c_field_Name : AFn := ⟨false, 1, 12, [.tmp 2],
  (.seq (rg false [⟨some 2, none, .mv (.k (.s []))⟩])
  (.seq (.seq (rg false [⟨some 3, none, .mv (.t 0)⟩, ⟨some 4, none, .bin .lss (.t 3) (.k (.i .i64 1))⟩, ⟨some 5, none, .mv (.t 4)⟩, ⟨some 6, some (5, false), .mv (.t 0)⟩, ⟨some 7, some (5, false), .bin .gtr (.t 6) (.k (.i .i64 16))⟩, ⟨some 8, none, .pick (.t 5) (.k (.b true)) (.t 7)⟩])
  (.cond (.t 8)
   (.seq (rg false [⟨some 2, none, .mv (.k (.s []))⟩])
   .ret)
   .skip))
  (.seq (rg false [⟨some 9, none, .mv (.t 0)⟩, ⟨some 10, none, .iaa 17 1 (.g 0) (.t 9)⟩, ⟨some 11, none, .ld false 1 (.t 10)⟩, ⟨some 2, none, .mv (.t 11)⟩])
  .ret)))⟩
noncomputable def c_p_strings_Builder_WriteByte : AFn := ⟨false, 2, 17, [.tmp 4],
  (.seq (rg false [⟨some 4, none, .mv (.k (.nili))⟩])
  (.seq (rg false [⟨some 5, none, .mv (.t 0)⟩, ⟨some 6, none, .call fn_p_strings_Builder_copyCheck [(.t 5)]⟩])
  (.seq (rg false [⟨some 7, none, .mv (.t 0)⟩, ⟨some 8, none, .mv (.t 0)⟩, ⟨some 9, none, .nilc (.t 8)⟩, ⟨some 10, none, .fa 1 (.t 9)⟩, ⟨some 11, none, .ld false 1 (.t 10)⟩, ⟨some 12, none, .mv (.t 1)⟩, ⟨some 13, none, .bll 1 (List.replicate 1 T.u8.zc) [(0, (.t 12))]⟩, ⟨some 14, none, .app 5 1 1 (.t 11) (.t 13)⟩, ⟨some 15, none, .nilc (.t 7)⟩, ⟨some 16, none, .fa 1 (.t 15)⟩, ⟨none, none, .st 1 (.t 16) (.t 14)⟩])
  (.seq (rg false [⟨some 4, none, .mv (.k (.nili))⟩])
  .ret))))⟩
noncomputable def c_addr_Width : AFn := ⟨false, 1, 11, [.tmp 2],
  (.seq (rg false [⟨some 1, none, .box 25 17 (.t 0)⟩, ⟨some 2, none, .mv (.k (.i .i64 0))⟩])
  (.seq (.blk 0
   (.seq (rg false [⟨some 4, none, .ld true 17 (.t 1)⟩, ⟨some 5, none, .call fn_addr_Right [(.t 4)]⟩, ⟨some 6, none, .un .not (.t 5)⟩, ⟨some 3, none, .mv (.t 6)⟩])
   (.cond (.t 3)
    (.seq (rg false [⟨some 2, none, .mv (.k (.i .i64 0))⟩])
    .ret)
    (.seq (rg false [⟨some 8, none, .fa 0 (.t 1)⟩, ⟨some 9, none, .ld false 1 (.t 8)⟩, ⟨some 10, none, .bin .eql (.t 9) (.k (.i .i64 4))⟩, ⟨some 7, none, .mv (.t 10)⟩])
    (.cond (.t 7)
     (.seq (rg false [⟨some 2, none, .mv (.k (.i .i64 32))⟩])
     .ret)
     .skip)))))
  (.seq (rg false [⟨some 2, none, .mv (.k (.i .i64 128))⟩])
  .ret)))⟩
noncomputable def c_strconv_FormatUint : AFn := ⟨false, 2, 8, [.tmp 4],
  (.seq (rg false [⟨some 4, none, .mv (.k (.s []))⟩])
  (.seq (rg false [⟨some 5, none, .mv (.t 0)⟩, ⟨some 6, none, .mv (.t 1)⟩, ⟨some 7, none, .call fn_internal_strconv_FormatUint [(.t 5), (.t 6)]⟩, ⟨some 4, none, .mv (.t 7)⟩])
  .ret))⟩
noncomputable def c_internal_stringslite_IndexByte : AFn := ⟨false, 2, 8, [.tmp 4],
  (.seq (rg false [⟨some 4, none, .mv (.k (.i .i64 0))⟩])
  (.seq (rg false [⟨some 5, none, .mv (.t 0)⟩, ⟨some 6, none, .mv (.t 1)⟩, ⟨some 7, none, .call fn_internal_bytealg_IndexByteString [(.t 5), (.t 6)]⟩, ⟨some 4, none, .mv (.t 7)⟩])
  .ret))⟩
noncomputable def c_cidr_Of : AFn := ⟨false, 2, 26, [.cell true 18 4, .tmp 5],
  (.seq (rg false [⟨some 2, none, .box 25 17 (.t 0)⟩, ⟨some 4, none, .alloc 91 T_api_Prefix.zc⟩, ⟨some 5, none, .mv (.k (.i .i64 0))⟩])
  (.seq (.blk 0
   (.seq (rg false [⟨some 7, none, .ld true 17 (.t 2)⟩, ⟨some 8, none, .call fn_addr_Right [(.t 7)]⟩, ⟨some 9, none, .un .not (.t 8)⟩, ⟨some 6, none, .mv (.t 9)⟩])
   (.cond (.t 6)
    (.seq (rg false [⟨some 10, none, .bld T_api_Prefix.zc []⟩, ⟨none, none, .st 18 (.t 4) (.t 10)⟩, ⟨some 5, none, .mv (.k (.i .i64 1))⟩])
    .ret)
    (.seq (rg false [⟨some 12, none, .mv (.t 1)⟩, ⟨some 13, none, .bin .lss (.t 12) (.k (.i .i64 0))⟩, ⟨some 14, none, .mv (.t 13)⟩, ⟨some 15, some (14, false), .mv (.t 1)⟩, ⟨some 16, some (14, false), .ld true 17 (.t 2)⟩, ⟨some 17, some (14, false), .call fn_addr_Width [(.t 16)]⟩, ⟨some 18, some (14, false), .bin .gtr (.t 15) (.t 17)⟩, ⟨some 19, none, .pick (.t 14) (.k (.b true)) (.t 18)⟩, ⟨some 11, none, .mv (.t 19)⟩])
    (.cond (.t 11)
     (.seq (rg false [⟨some 20, none, .bld T_api_Prefix.zc []⟩, ⟨none, none, .st 18 (.t 4) (.t 20)⟩, ⟨some 5, none, .mv (.k (.i .i64 6))⟩])
     .ret)
     .skip)))))
  (.seq (rg false [⟨some 21, none, .ld true 17 (.t 2)⟩, ⟨some 22, none, .mv (.t 1)⟩, ⟨some 23, none, .call fn_addr_Mask [(.t 21), (.t 22)]⟩, ⟨some 24, none, .mv (.t 1)⟩, ⟨some 25, none, .bld T_api_Prefix.zc [(0, 17, (.t 23)), (17, 1, (.t 24))]⟩, ⟨none, none, .st 18 (.t 4) (.t 25)⟩, ⟨some 5, none, .mv (.k (.i .i64 0))⟩])
  .ret)))⟩
noncomputable def c_addr_Less : AFn := ⟨false, 2, 21, [.tmp 4],
  (.seq (rg false [⟨some 2, none, .box 25 17 (.t 0)⟩, ⟨some 3, none, .box 25 17 (.t 1)⟩, ⟨some 4, none, .mv (.k (.b false))⟩])
  (.seq (.seq (rg false [⟨some 5, none, .fa 0 (.t 2)⟩, ⟨some 6, none, .ld false 1 (.t 5)⟩, ⟨some 7, none, .fa 0 (.t 3)⟩, ⟨some 8, none, .ld false 1 (.t 7)⟩, ⟨some 9, none, .bin .neq (.t 6) (.t 8)⟩])
  (.cond (.t 9)
   (.seq (rg false [⟨some 10, none, .fa 0 (.t 2)⟩, ⟨some 11, none, .ld false 1 (.t 10)⟩, ⟨some 12, none, .fa 0 (.t 3)⟩, ⟨some 13, none, .ld false 1 (.t 12)⟩, ⟨some 14, none, .bin .lss (.t 11) (.t 13)⟩, ⟨some 4, none, .mv (.t 14)⟩])
   .ret)
   .skip))
  (.seq (rg true [⟨some 15, none, .fa 1 (.t 2)⟩, ⟨some 16, none, .sla 16 1 (.t 15) none none⟩, ⟨some 17, none, .fa 1 (.t 3)⟩, ⟨some 18, none, .sla 16 1 (.t 17) none none⟩, ⟨some 19, none, .call fn_bytes_Compare [(.t 16), (.t 18)]⟩, ⟨some 20, none, .bin .lss (.t 19) (.k (.i .i64 0))⟩, ⟨some 4, none, .mv (.t 20)⟩])
  .ret)))⟩
noncomputable def c_addr_Four : AFn := ⟨false, 1, 10, [.cell true 17 2],
  (.seq (rg false [⟨some 1, none, .box 156 4 (.t 0)⟩, ⟨some 2, none, .alloc 25 T_api_Addr.zc⟩])
  (.seq (rg false [⟨some 4, none, .bld T_api_Addr.zc [(0, 1, (.k (.i .i64 4)))]⟩, ⟨some 3, none, .alloc 25 T_api_Addr.zc⟩, ⟨none, none, .st 17 (.t 3) (.t 4)⟩])
  (.seq (.regd [⟨some 5, none, .fa 1 (.t 3)⟩, ⟨some 6, none, .sla 16 1 (.t 5) none none⟩, ⟨some 7, none, .sla 4 1 (.t 1) none none⟩, ⟨some 8, none, .cpy 1 (.t 6) (.t 7)⟩] [some (0, 0), some (0, 0), some (0, 0), none])
  (.seq (rg false [⟨some 9, none, .ld true 17 (.t 3)⟩, ⟨none, none, .st 17 (.t 2) (.t 9)⟩])
  .ret))))⟩
noncomputable def c_strings_IndexAny_l0 : AC :=
  (.seq (.seq (rg false [⟨some 33, none, .mv (.t 8)⟩, ⟨some 34, none, .mv (.t 0)⟩, ⟨some 35, none, .lens (.t 34)⟩, ⟨some 36, none, .bin .lss (.t 33) (.t 35)⟩])
  (.cond (.t 36)
   .skip
   (.exit 0)))
  (.seq (.blk 1
   (.seq (rg false [⟨some 39, none, .mv (.t 0)⟩, ⟨some 40, none, .mv (.t 8)⟩, ⟨some 41, none, .ixs (.t 39) (.t 40)⟩, ⟨some 42, none, .call fn_p_strings_asciiSet_contains [(.t 6), (.t 41)]⟩])
   (.cond (.t 42)
    (.seq (rg false [⟨some 43, none, .mv (.t 8)⟩, ⟨some 4, none, .mv (.t 43)⟩])
    .ret)
    .skip)))
  (rg false [⟨some 37, none, .mv (.t 8)⟩, ⟨some 38, none, .bin .add (.t 37) (.k (.i .i64 1))⟩, ⟨some 8, none, .mv (.t 38)⟩])))
noncomputable def c_strings_IndexAny_l1 : AC :=
  (.seq (rg false [⟨some 46, none, .nxt (.t 45)⟩, ⟨some 47, none, .ext (.t 46) 0⟩])
  (.seq (.cond (.t 47)
   .skip
   (.exit 2))
  (.blk 3
   (.seq (rg false [⟨some 48, none, .ext (.t 46) 1⟩, ⟨some 49, none, .ext (.t 46) 2⟩, ⟨some 9, none, .mv (.t 48)⟩, ⟨some 10, none, .mv (.t 49)⟩])
   (.seq (rg false [⟨some 50, none, .mv (.t 1)⟩, ⟨some 51, none, .mv (.t 10)⟩, ⟨some 52, none, .call fn_strings_IndexRune [(.t 50), (.t 51)]⟩, ⟨some 53, none, .bin .geq (.t 52) (.k (.i .i64 0))⟩])
   (.cond (.t 53)
    (.seq (rg false [⟨some 54, none, .mv (.t 9)⟩, ⟨some 4, none, .mv (.t 54)⟩])
    .ret)
    .skip))))))
noncomputable def c_strings_IndexAny : AFn := ⟨false, 2, 55, [.tmp 4],
  (.seq (rg false [⟨some 4, none, .mv (.k (.i .i64 0))⟩])
  (.seq (.seq (rg false [⟨some 11, none, .mv (.t 1)⟩, ⟨some 12, none, .bin .eql (.t 11) (.k (.s []))⟩])
  (.cond (.t 12)
   (.seq (rg false [⟨some 4, none, .mv (.k (.i .i64 (-1)))⟩])
   .ret)
   .skip))
  (.seq (.seq (rg false [⟨some 13, none, .mv (.t 1)⟩, ⟨some 14, none, .lens (.t 13)⟩, ⟨some 15, none, .bin .eql (.t 14) (.k (.i .i64 1))⟩])
  (.cond (.t 15)
   (.seq (rg false [⟨some 16, none, .mv (.t 1)⟩, ⟨some 17, none, .ixs (.t 16) (.k (.i .i64 0))⟩, ⟨some 18, none, .cvi .i32 (.t 17)⟩, ⟨some 5, none, .mv (.t 18)⟩])
   (.seq (.seq (rg false [⟨some 19, none, .mv (.t 5)⟩, ⟨some 20, none, .bin .geq (.t 19) (.k (.i .i32 128))⟩])
   (.cond (.t 20)
    (rg false [⟨some 5, none, .mv (.k (.i .i32 65533))⟩])
    .skip))
   (.seq (rg false [⟨some 21, none, .mv (.t 0)⟩, ⟨some 22, none, .mv (.t 5)⟩, ⟨some 23, none, .call fn_strings_IndexRune [(.t 21), (.t 22)]⟩, ⟨some 4, none, .mv (.t 23)⟩])
   .ret)))
   .skip))
  (.seq (.seq (rg false [⟨some 24, none, .mv (.t 0)⟩, ⟨some 25, none, .lens (.t 24)⟩, ⟨some 26, none, .call fn_strings_shouldUseASCIISet [(.t 25)]⟩])
  (.cond (.t 26)
   (.seq (rg false [⟨some 28, none, .mv (.t 1)⟩, ⟨some 29, none, .call fn_strings_makeASCIISet [(.t 28)]⟩, ⟨some 27, none, .mv (.t 29)⟩, ⟨some 30, none, .ext (.t 27) 0⟩, ⟨some 31, none, .ext (.t 27) 1⟩, ⟨some 6, none, .alloc 222 (T.arr 256 T.b).zc⟩, ⟨none, none, .st 256 (.t 6) (.t 30)⟩, ⟨some 7, none, .mv (.t 31)⟩])
   (.seq (rg false [⟨some 32, none, .mv (.t 7)⟩])
   (.cond (.t 32)
    (.seq (.seq (rg false [⟨some 8, none, .mv (.k (.i .i64 0))⟩])
    (.blk 0
     (.loop [0, 6, 8] c_strings_IndexAny_l0)))
    (.seq (rg false [⟨some 4, none, .mv (.k (.i .i64 (-1)))⟩])
    .ret))
    .skip)))
   .skip))
  (.seq (.seq (rg false [⟨some 44, none, .mv (.t 0)⟩, ⟨some 45, none, .rng (.t 44)⟩])
  (.blk 2
   (.loop [1, 45] c_strings_IndexAny_l1)))
  (.seq (rg false [⟨some 4, none, .mv (.k (.i .i64 (-1)))⟩])
  .ret))))))⟩
noncomputable def c_strings_Index : AFn := ⟨false, 2, 8, [.tmp 4],
  (.seq (rg false [⟨some 4, none, .mv (.k (.i .i64 0))⟩])
  (.seq (rg false [⟨some 5, none, .mv (.t 0)⟩, ⟨some 6, none, .mv (.t 1)⟩, ⟨some 7, none, .call fn_internal_stringslite_Index [(.t 5), (.t 6)]⟩, ⟨some 4, none, .mv (.t 7)⟩])
  .ret))⟩
noncomputable def c_field_keyed : AFn := ⟨true, 0, 2, [.cell true 3 0],
  (.seq (rg false [⟨some 0, none, .alloc 168 (zz [(3, .nilf)])⟩])
  (.seq (rg false [⟨some 1, none, .bld (zz [(3, .nilf)]) [(0, 1, (.f fn_field_keyed_1)), (1, 1, (.f fn_field_keyed_2)), (2, 1, (.f fn_field_keyed_3))]⟩, ⟨none, none, .st 3 (.t 0) (.t 1)⟩])
  .ret))⟩
noncomputable def c_field_ended : AFn := ⟨true, 0, 2, [.cell true 3 0],
  (.seq (rg false [⟨some 0, none, .alloc 168 (zz [(3, .nilf)])⟩])
  (.seq (rg false [⟨some 1, none, .bld (zz [(3, .nilf)]) [(0, 1, (.f fn_field_ended_1)), (1, 1, (.f fn_field_ended_2)), (2, 1, (.f fn_field_ended_3))]⟩, ⟨none, none, .st 3 (.t 0) (.t 1)⟩])
  .ret))⟩
noncomputable def c_field_allowed : AFn := ⟨true, 0, 2, [.cell true 3 0],
  (.seq (rg false [⟨some 0, none, .alloc 168 (zz [(3, .nilf)])⟩])
  (.seq (rg false [⟨some 1, none, .bld (zz [(3, .nilf)]) [(0, 1, (.f fn_field_allowed_1)), (1, 1, (.f fn_field_allowed_2)), (2, 1, (.f fn_field_allowed_3))]⟩, ⟨none, none, .st 3 (.t 0) (.t 1)⟩])
  .ret))⟩
noncomputable def c_field_counted : AFn := ⟨true, 2, 8, [.cell true 3 4],
  (.seq (rg false [⟨some 2, none, .box 81 1 (.t 0)⟩, ⟨some 3, none, .box 81 1 (.t 1)⟩, ⟨some 4, none, .alloc 168 (zz [(3, .nilf)])⟩])
  (.seq (rg false [⟨some 5, none, .mkf (.func fn_field_counted_1) [] [(.t 3), (.t 2)]⟩, ⟨some 6, none, .mkf (.func fn_field_counted_2) [] [(.t 2), (.t 3)]⟩, ⟨some 7, none, .bld (zz [(3, .nilf)]) [(0, 1, (.t 5)), (1, 1, (.t 6)), (2, 1, (.f fn_field_counted_3))]⟩, ⟨none, none, .st 3 (.t 4) (.t 7)⟩])
  .ret))⟩
noncomputable def c_field_said : AFn := ⟨true, 0, 2, [.cell true 3 0],
  (.seq (rg false [⟨some 0, none, .alloc 168 (zz [(3, .nilf)])⟩])
  (.seq (rg false [⟨some 1, none, .bld (zz [(3, .nilf)]) [(0, 1, (.f fn_field_said_1)), (1, 1, (.f fn_field_said_2)), (2, 1, (.f fn_field_said_3))]⟩, ⟨none, none, .st 3 (.t 0) (.t 1)⟩])
  .ret))⟩
noncomputable def c_internal_strconv_FormatUint : AFn := ⟨false, 2, 32, [.tmp 4],
  (.seq (rg false [⟨some 4, none, .mv (.k (.s []))⟩])
  (.seq (.seq (rg false [⟨some 9, none, .mv (.t 1)⟩, ⟨some 10, none, .bin .eql (.t 9) (.k (.i .i64 10))⟩])
  (.cond (.t 10)
   (.seq (.seq (rg false [⟨some 11, none, .mv (.t 0)⟩, ⟨some 12, none, .bin .lss (.t 11) (.k (.i .u64 100))⟩])
   (.cond (.t 12)
    (.seq (rg false [⟨some 13, none, .mv (.t 0)⟩, ⟨some 14, none, .cvi .i64 (.t 13)⟩, ⟨some 15, none, .call fn_internal_strconv_small [(.t 14)]⟩, ⟨some 4, none, .mv (.t 15)⟩])
    .ret)
    .skip))
   (.seq (rg false [⟨some 5, none, .alloc 240 (T.arr 24 T.u8).zc⟩])
   (.seq (rg false [⟨some 16, none, .mv (.t 0)⟩, ⟨some 17, none, .call fn_internal_strconv_numDigits [(.t 16)]⟩, ⟨some 6, none, .mv (.t 17)⟩])
   (.seq (rg false [⟨some 18, none, .mv (.t 6)⟩, ⟨some 19, none, .sla 24 1 (.t 5) none (some (.t 18))⟩, ⟨some 20, none, .mv (.t 0)⟩, ⟨some 21, none, .call fn_internal_strconv_formatBase10 [(.t 19), (.t 20)]⟩])
   (.seq (rg false [⟨some 22, none, .mv (.t 6)⟩, ⟨some 23, none, .sla 24 1 (.t 5) none (some (.t 22))⟩, ⟨some 24, none, .cvs (.t 23)⟩, ⟨some 4, none, .mv (.t 24)⟩])
   .ret)))))
   .skip))
  (.seq (rg false [⟨some 26, none, .mv (.t 0)⟩, ⟨some 27, none, .mv (.t 1)⟩, ⟨some 28, none, .call fn_internal_strconv_formatBits [(.k (.nils)), (.t 26), (.t 27), (.k (.b false)), (.k (.b false))]⟩, ⟨some 25, none, .mv (.t 28)⟩, ⟨some 29, none, .ext (.t 25) 0⟩, ⟨some 30, none, .ext (.t 25) 1⟩, ⟨some 7, none, .mv (.t 29)⟩, ⟨some 8, none, .mv (.t 30)⟩])
  (.seq (rg false [⟨some 31, none, .mv (.t 8)⟩, ⟨some 4, none, .mv (.t 31)⟩])
  .ret))))⟩
noncomputable def c_addr_Mask_l0 : AC :=
  (.seq (rg false [⟨some 12, none, .bin .lss (.t 11) (.k (.i .i64 16))⟩])
  (.seq (.cond (.t 12)
   .skip
   (.exit 0))
  (.seq (.blk 1
   (.seq (rg false [⟨some 13, none, .mv (.t 11)⟩, ⟨some 5, none, .mv (.t 13)⟩])
   (.seq (rg false [⟨some 14, none, .mv (.t 1)⟩, ⟨some 15, none, .mv (.t 5)⟩, ⟨some 16, none, .bin .mul (.k (.i .i64 8)) (.t 15)⟩, ⟨some 17, none, .bin .sub (.t 14) (.t 16)⟩, ⟨some 18, none, .mnx true (.t 17) (.k (.i .i64 0))⟩, ⟨some 19, none, .mnx false (.t 18) (.k (.i .i64 8))⟩, ⟨some 6, none, .mv (.t 19)⟩])
   (.seq (.seq (rg false [⟨some 20, none, .mv (.t 1)⟩, ⟨some 21, none, .bin .lss (.t 20) (.k (.i .i64 0))⟩])
   (.cond (.t 21)
    (rg false [⟨some 6, none, .mv (.k (.i .i64 0))⟩])
    .skip))
   (rg false [⟨some 22, none, .mv (.t 5)⟩, ⟨some 23, none, .fa 1 (.t 2)⟩, ⟨some 24, none, .iaa 16 1 (.t 23) (.t 22)⟩, ⟨some 25, none, .ld false 1 (.t 24)⟩, ⟨some 26, none, .mv (.t 6)⟩, ⟨some 27, none, .bin .sub (.k (.i .i64 8)) (.t 26)⟩, ⟨some 28, none, .cvi .u64 (.t 27)⟩, ⟨some 29, none, .bin .shl (.k (.i .u8 255)) (.t 28)⟩, ⟨some 30, none, .bin .and (.t 25) (.t 29)⟩, ⟨some 31, none, .fa 1 (.t 2)⟩, ⟨some 32, none, .iaa 16 1 (.t 31) (.t 22)⟩, ⟨none, none, .st 1 (.t 32) (.t 30)⟩])))))
  (rg false [⟨some 33, none, .bin .add (.t 11) (.k (.i .i64 1))⟩, ⟨some 11, none, .mv (.t 33)⟩]))))
noncomputable def c_addr_Mask : AFn := ⟨false, 2, 35, [.cell true 17 4],
  (.seq (rg false [⟨some 2, none, .box 25 17 (.t 0)⟩, ⟨some 4, none, .alloc 25 T_api_Addr.zc⟩])
  (.seq (.seq (rg false [⟨some 7, none, .ld true 17 (.t 2)⟩, ⟨some 8, none, .call fn_addr_Right [(.t 7)]⟩, ⟨some 9, none, .un .not (.t 8)⟩])
  (.cond (.t 9)
   (.seq (rg false [⟨some 10, none, .bld T_api_Addr.zc []⟩, ⟨none, none, .st 17 (.t 4) (.t 10)⟩])
   .ret)
   .skip))
  (.seq (.seq (rg false [⟨some 11, none, .mv (.k (.i .i64 0))⟩])
  (.blk 0
   (.loop [1, 2, 4, 11] c_addr_Mask_l0)))
  (.seq (rg false [⟨some 34, none, .ld true 17 (.t 2)⟩, ⟨none, none, .st 17 (.t 4) (.t 34)⟩])
  .ret))))⟩
noncomputable def c_bytes_Compare : AFn := ⟨false, 2, 8, [.tmp 4],
  (.seq (rg false [⟨some 4, none, .mv (.k (.i .i64 0))⟩])
  (.seq (rg false [⟨some 5, none, .mv (.t 0)⟩, ⟨some 6, none, .mv (.t 1)⟩, ⟨some 7, none, .call fn_internal_bytealg_Compare [(.t 5), (.t 6)]⟩, ⟨some 4, none, .mv (.t 7)⟩])
  .ret))⟩
noncomputable def c_strings_IndexRune_l0 : AC :=
  (.seq (rg false [⟨some 176, none, .nxt (.t 175)⟩, ⟨some 177, none, .ext (.t 176) 0⟩])
  (.seq (.cond (.t 177)
   .skip
   (.exit 9))
  (.blk 10
   (.seq (rg false [⟨some 178, none, .ext (.t 176) 1⟩, ⟨some 179, none, .ext (.t 176) 2⟩, ⟨some 5, none, .mv (.t 178)⟩, ⟨some 6, none, .mv (.t 179)⟩])
   (.seq (rg false [⟨some 180, none, .mv (.t 6)⟩, ⟨some 181, none, .bin .eql (.t 180) (.k (.i .i32 65533))⟩])
   (.cond (.t 181)
    (.seq (rg false [⟨some 182, none, .mv (.t 5)⟩, ⟨some 4, none, .mv (.t 182)⟩])
    .ret)
    .skip))))))
noncomputable def c_strings_IndexRune_l1 : AC :=
  (.seq (.seq (rg false [⟨some 48, none, .mv (.t 12)⟩, ⟨some 49, none, .mv (.t 7)⟩, ⟨some 50, none, .lens (.t 49)⟩, ⟨some 51, none, .bin .lss (.t 48) (.t 50)⟩])
  (.cond (.t 51)
   .skip
   (.exit 3)))
  (.seq (.blk 4
   (.seq (rg true [⟨some 54, none, .mv (.t 0)⟩, ⟨some 55, none, .mv (.t 9)⟩, ⟨some 56, none, .mv (.t 12)⟩, ⟨some 57, none, .bin .sub (.t 55) (.t 56)⟩, ⟨some 58, none, .ixs (.t 54) (.t 57)⟩, ⟨some 59, none, .mv (.t 7)⟩, ⟨some 60, none, .mv (.t 8)⟩, ⟨some 61, none, .mv (.t 12)⟩, ⟨some 62, none, .bin .sub (.t 60) (.t 61)⟩, ⟨some 63, none, .ixs (.t 59) (.t 62)⟩, ⟨some 64, none, .bin .neq (.t 58) (.t 63)⟩])
   (.cond (.t 64)
    .stop
    .skip)))
  (rg false [⟨some 52, none, .mv (.t 12)⟩, ⟨some 53, none, .bin .add (.t 52) (.k (.i .i64 1))⟩, ⟨some 12, none, .mv (.t 53)⟩])))
noncomputable def c_strings_IndexRune_l2 : AC :=
  (.seq (.seq (rg false [⟨some 23, none, .mv (.t 9)⟩, ⟨some 24, none, .mv (.t 0)⟩, ⟨some 25, none, .lens (.t 24)⟩, ⟨some 26, none, .bin .lss (.t 23) (.t 25)⟩])
  (.cond (.t 26)
   .skip
   (.exit 1)))
  (.blk 2
   (.scope (.seq (.seq (rg true [⟨some 27, none, .mv (.t 0)⟩, ⟨some 28, none, .mv (.t 9)⟩, ⟨some 29, none, .ixs (.t 27) (.t 28)⟩, ⟨some 30, none, .mv (.t 7)⟩, ⟨some 31, none, .mv (.t 8)⟩, ⟨some 32, none, .ixs (.t 30) (.t 31)⟩, ⟨some 33, none, .bin .neq (.t 29) (.t 32)⟩])
   (.cond (.t 33)
    (.seq (rg true [⟨some 34, none, .mv (.t 0)⟩, ⟨some 35, none, .mv (.t 9)⟩, ⟨some 36, none, .bin .add (.t 35) (.k (.i .i64 1))⟩, ⟨some 37, none, .sls (.t 34) (some (.t 36)) none⟩, ⟨some 38, none, .mv (.t 7)⟩, ⟨some 39, none, .mv (.t 8)⟩, ⟨some 40, none, .ixs (.t 38) (.t 39)⟩, ⟨some 41, none, .call fn_strings_IndexByte [(.t 37), (.t 40)]⟩, ⟨some 11, none, .mv (.t 41)⟩])
    (.seq (.seq (rg false [⟨some 42, none, .mv (.t 11)⟩, ⟨some 43, none, .bin .lss (.t 42) (.k (.i .i64 0))⟩])
    (.cond (.t 43)
     (.seq (rg false [⟨some 4, none, .mv (.k (.i .i64 (-1)))⟩])
     .ret)
     .skip))
    (rg false [⟨some 44, none, .mv (.t 9)⟩, ⟨some 45, none, .mv (.t 11)⟩, ⟨some 46, none, .bin .add (.t 45) (.k (.i .i64 1))⟩, ⟨some 47, none, .bin .add (.t 44) (.t 46)⟩, ⟨some 9, none, .mv (.t 47)⟩])))
    .skip))
   (.seq (.seq (rg false [⟨some 12, none, .mv (.k (.i .i64 1))⟩])
   (.blk 3
    (.loop [0, 7, 8, 9, 12] c_strings_IndexRune_l1)))
   (.seq (.seq (rg false [⟨some 65, none, .mv (.t 9)⟩, ⟨some 66, none, .mv (.t 8)⟩, ⟨some 67, none, .bin .sub (.t 65) (.t 66)⟩, ⟨some 4, none, .mv (.t 67)⟩])
   .ret)
   (.seq .skip
   (.seq (rg false [⟨some 68, none, .mv (.t 10)⟩, ⟨some 69, none, .bin .add (.t 68) (.k (.i .i64 1))⟩, ⟨some 10, none, .mv (.t 69)⟩])
   (.seq (rg false [⟨some 70, none, .mv (.t 9)⟩, ⟨some 71, none, .bin .add (.t 70) (.k (.i .i64 1))⟩, ⟨some 9, none, .mv (.t 71)⟩])
   (.seq (rg false [⟨some 72, none, .mv (.k (.b true))⟩, ⟨some 73, some (72, true), .mv (.t 10)⟩, ⟨some 74, some (72, true), .mv (.t 9)⟩, ⟨some 75, some (72, true), .call fn_internal_bytealg_Cutover [(.t 74)]⟩, ⟨some 76, some (72, true), .bin .gtr (.t 73) (.t 75)⟩, ⟨some 77, none, .pick (.t 72) (.t 76) (.k (.b false))⟩, ⟨some 78, none, .mv (.t 77)⟩, ⟨some 79, some (78, true), .mv (.t 9)⟩, ⟨some 80, some (78, true), .mv (.t 0)⟩, ⟨some 81, some (78, true), .lens (.t 80)⟩, ⟨some 82, some (78, true), .bin .lss (.t 79) (.t 81)⟩, ⟨some 83, none, .pick (.t 78) (.t 82) (.k (.b false))⟩, ⟨some 84, none, .mv (.t 83)⟩, ⟨some 85, some (84, false), .mv (.k (.b false))⟩, ⟨some 86, some (85, true), .mv (.t 10)⟩, ⟨some 87, some (85, true), .mv (.t 9)⟩, ⟨some 88, some (85, true), .bin .shr (.t 87) (.k (.i .u64 4))⟩, ⟨some 89, some (85, true), .bin .add (.k (.i .i64 4)) (.t 88)⟩, ⟨some 90, some (85, true), .bin .geq (.t 86) (.t 89)⟩, ⟨some 91, some (84, false), .pick (.t 85) (.t 90) (.k (.b false))⟩, ⟨some 92, some (84, false), .mv (.t 91)⟩, ⟨some 93, some (92, true), .mv (.t 9)⟩, ⟨some 94, some (92, true), .mv (.t 0)⟩, ⟨some 95, some (92, true), .lens (.t 94)⟩, ⟨some 96, some (92, true), .bin .lss (.t 93) (.t 95)⟩, ⟨some 97, some (84, false), .pick (.t 92) (.t 96) (.k (.b false))⟩, ⟨some 98, none, .pick (.t 84) (.k (.b true)) (.t 97)⟩])
   (.cond (.t 98)
    .stop
    .skip)))))))))))
noncomputable def c_strings_IndexRune_l3 : AC :=
  (.seq (.seq (rg false [⟨some 140, none, .mv (.t 16)⟩, ⟨some 141, none, .mv (.t 7)⟩, ⟨some 142, none, .lens (.t 141)⟩, ⟨some 143, none, .bin .lss (.t 140) (.t 142)⟩])
  (.cond (.t 143)
   .skip
   (.exit 7)))
  (.seq (.blk 8
   (.seq (rg true [⟨some 146, none, .mv (.t 0)⟩, ⟨some 147, none, .mv (.t 9)⟩, ⟨some 148, none, .mv (.t 16)⟩, ⟨some 149, none, .bin .sub (.t 147) (.t 148)⟩, ⟨some 150, none, .ixs (.t 146) (.t 149)⟩, ⟨some 151, none, .mv (.t 7)⟩, ⟨some 152, none, .mv (.t 8)⟩, ⟨some 153, none, .mv (.t 16)⟩, ⟨some 154, none, .bin .sub (.t 152) (.t 153)⟩, ⟨some 155, none, .ixs (.t 151) (.t 154)⟩, ⟨some 156, none, .bin .neq (.t 150) (.t 155)⟩])
   (.cond (.t 156)
    (.exit 6)
    .skip)))
  (rg false [⟨some 144, none, .mv (.t 16)⟩, ⟨some 145, none, .bin .add (.t 144) (.k (.i .i64 1))⟩, ⟨some 16, none, .mv (.t 145)⟩])))
noncomputable def c_strings_IndexRune_l4 : AC :=
  (.seq (.seq (rg false [⟨some 121, none, .mv (.t 9)⟩, ⟨some 122, none, .mv (.t 0)⟩, ⟨some 123, none, .lens (.t 122)⟩, ⟨some 124, none, .bin .lss (.t 121) (.t 123)⟩])
  (.cond (.t 124)
   .skip
   (.exit 5)))
  (.seq (.blk 6
   (.seq (rg false [⟨some 127, none, .mv (.t 0)⟩, ⟨some 128, none, .mv (.t 9)⟩, ⟨some 129, none, .ixs (.t 127) (.t 128)⟩, ⟨some 130, none, .mv (.t 14)⟩, ⟨some 131, none, .bin .eql (.t 129) (.t 130)⟩, ⟨some 132, none, .mv (.t 131)⟩, ⟨some 133, some (132, true), .mv (.t 0)⟩, ⟨some 134, some (132, true), .mv (.t 9)⟩, ⟨some 135, some (132, true), .bin .sub (.t 134) (.k (.i .i64 1))⟩, ⟨some 136, some (132, true), .ixs (.t 133) (.t 135)⟩, ⟨some 137, some (132, true), .mv (.t 15)⟩, ⟨some 138, some (132, true), .bin .eql (.t 136) (.t 137)⟩, ⟨some 139, none, .pick (.t 132) (.t 138) (.k (.b false))⟩])
   (.cond (.t 139)
    (.seq (.seq (rg false [⟨some 16, none, .mv (.k (.i .i64 2))⟩])
    (.blk 7
     (.loop [0, 7, 8, 9, 14, 15, 16] c_strings_IndexRune_l3)))
    (.seq (rg false [⟨some 157, none, .mv (.t 9)⟩, ⟨some 158, none, .mv (.t 8)⟩, ⟨some 159, none, .bin .sub (.t 157) (.t 158)⟩, ⟨some 4, none, .mv (.t 159)⟩])
    .ret))
    .skip)))
  (rg false [⟨some 125, none, .mv (.t 9)⟩, ⟨some 126, none, .bin .add (.t 125) (.k (.i .i64 1))⟩, ⟨some 9, none, .mv (.t 126)⟩])))
noncomputable def c_strings_IndexRune : AFn := ⟨false, 2, 187, [.tmp 4],
  (.seq (rg false [⟨some 4, none, .mv (.k (.i .i64 0))⟩])
  (.blk 0
   (.seq (rg false [⟨some 161, none, .mv (.t 1)⟩, ⟨some 162, none, .bin .leq (.k (.i .i32 0)) (.t 161)⟩, ⟨some 163, none, .mv (.t 162)⟩, ⟨some 164, some (163, true), .mv (.t 1)⟩, ⟨some 165, some (163, true), .bin .lss (.t 164) (.k (.i .i32 128))⟩, ⟨some 166, none, .pick (.t 163) (.t 165) (.k (.b false))⟩, ⟨some 160, none, .mv (.t 166)⟩])
   (.cond (.t 160)
    (.seq (rg false [⟨some 167, none, .mv (.t 0)⟩, ⟨some 168, none, .mv (.t 1)⟩, ⟨some 169, none, .cvi .u8 (.t 168)⟩, ⟨some 170, none, .call fn_strings_IndexByte [(.t 167), (.t 169)]⟩, ⟨some 4, none, .mv (.t 170)⟩])
    .ret)
    (.seq (rg false [⟨some 172, none, .mv (.t 1)⟩, ⟨some 173, none, .bin .eql (.t 172) (.k (.i .i32 65533))⟩, ⟨some 171, none, .mv (.t 173)⟩])
    (.cond (.t 171)
     (.seq (.seq (rg false [⟨some 174, none, .mv (.t 0)⟩, ⟨some 175, none, .rng (.t 174)⟩])
     (.blk 9
      (.loop [175] c_strings_IndexRune_l0)))
     (.seq (rg false [⟨some 4, none, .mv (.k (.i .i64 (-1)))⟩])
     .ret))
     (.seq (rg false [⟨some 184, none, .mv (.t 1)⟩, ⟨some 185, none, .call fn_unicode_utf8_ValidRune [(.t 184)]⟩, ⟨some 186, none, .un .not (.t 185)⟩, ⟨some 183, none, .mv (.t 186)⟩])
     (.cond (.t 183)
      (.seq (rg false [⟨some 4, none, .mv (.k (.i .i64 (-1)))⟩])
      .ret)
      (.scope (.seq (rg false [⟨some 17, none, .mv (.t 1)⟩, ⟨some 18, none, .cvc (.t 17)⟩, ⟨some 7, none, .mv (.t 18)⟩])
      (.seq (rg false [⟨some 19, none, .mv (.t 7)⟩, ⟨some 20, none, .lens (.t 19)⟩, ⟨some 21, none, .bin .sub (.t 20) (.k (.i .i64 1))⟩, ⟨some 8, none, .mv (.t 21)⟩])
      (.seq (rg false [⟨some 22, none, .mv (.t 8)⟩, ⟨some 9, none, .mv (.t 22)⟩])
      (.seq (rg false [⟨some 10, none, .mv (.k (.i .i64 0))⟩])
      (.seq (.blk 1
       (.loop [0, 7, 8, 9] c_strings_IndexRune_l2))
      (.seq (.seq (rg false [⟨some 4, none, .mv (.k (.i .i64 (-1)))⟩])
      .ret)
      (.seq .skip
      (.seq (.cond (.k (.b true))
       (.seq (rg false [⟨some 99, none, .mv (.t 0)⟩, ⟨some 100, none, .mv (.t 9)⟩, ⟨some 101, none, .mv (.t 8)⟩, ⟨some 102, none, .bin .sub (.t 100) (.t 101)⟩, ⟨some 103, none, .sls (.t 99) (some (.t 102)) none⟩, ⟨some 104, none, .mv (.t 1)⟩, ⟨some 105, none, .cvc (.t 104)⟩, ⟨some 106, none, .call fn_internal_bytealg_IndexString [(.t 103), (.t 105)]⟩, ⟨some 13, none, .mv (.t 106)⟩])
       (.seq (rg false [⟨some 107, none, .mv (.t 13)⟩, ⟨some 108, none, .bin .geq (.t 107) (.k (.i .i64 0))⟩])
       (.cond (.t 108)
        (.seq (rg false [⟨some 109, none, .mv (.t 9)⟩, ⟨some 110, none, .mv (.t 13)⟩, ⟨some 111, none, .bin .add (.t 109) (.t 110)⟩, ⟨some 112, none, .mv (.t 8)⟩, ⟨some 113, none, .bin .sub (.t 111) (.t 112)⟩, ⟨some 4, none, .mv (.t 113)⟩])
        .ret)
        .skip)))
       (.scope (.seq (rg false [⟨some 114, none, .mv (.t 7)⟩, ⟨some 115, none, .mv (.t 8)⟩, ⟨some 116, none, .ixs (.t 114) (.t 115)⟩, ⟨some 14, none, .mv (.t 116)⟩])
       (.seq (rg false [⟨some 117, none, .mv (.t 7)⟩, ⟨some 118, none, .mv (.t 8)⟩, ⟨some 119, none, .bin .sub (.t 118) (.k (.i .i64 1))⟩, ⟨some 120, none, .ixs (.t 117) (.t 119)⟩, ⟨some 15, none, .mv (.t 120)⟩])
       (.seq .skip
       (.blk 5
        (.loop [0, 7, 8, 9, 14, 15] c_strings_IndexRune_l4)))))))
      (.seq (rg false [⟨some 4, none, .mv (.k (.i .i64 (-1)))⟩])
      .ret))))))))))))))))))⟩
noncomputable def c_strings_shouldUseASCIISet : AFn := ⟨false, 1, 5, [.tmp 2],
  (.seq (rg false [⟨some 2, none, .mv (.k (.b false))⟩])
  (.seq (rg false [⟨some 3, none, .mv (.t 0)⟩, ⟨some 4, none, .bin .gtr (.t 3) (.k (.i .i64 8))⟩, ⟨some 2, none, .mv (.t 4)⟩])
  .ret))⟩
noncomputable def c_strings_makeASCIISet_l0 : AC :=
  (.seq (.seq (rg false [⟨some 6, none, .mv (.t 4)⟩, ⟨some 7, none, .mv (.t 0)⟩, ⟨some 8, none, .lens (.t 7)⟩, ⟨some 9, none, .bin .lss (.t 6) (.t 8)⟩])
  (.cond (.t 9)
   .skip
   (.exit 0)))
  (.seq (.blk 1
   (.seq (rg false [⟨some 12, none, .mv (.t 0)⟩, ⟨some 13, none, .mv (.t 4)⟩, ⟨some 14, none, .ixs (.t 12) (.t 13)⟩, ⟨some 5, none, .mv (.t 14)⟩])
   (.seq (.seq (rg false [⟨some 15, none, .mv (.t 5)⟩, ⟨some 16, none, .bin .geq (.t 15) (.k (.i .u8 128))⟩])
   (.cond (.t 16)
    (.seq (rg false [⟨some 17, none, .ld true 256 (.t 2)⟩, ⟨none, none, .st 256 (.t 2) (.t 17)⟩, ⟨some 3, none, .mv (.k (.b false))⟩])
    .ret)
    .skip))
   (rg false [⟨some 18, none, .mv (.t 5)⟩, ⟨some 19, none, .iaa 256 1 (.t 2) (.t 18)⟩, ⟨none, none, .st 1 (.t 19) (.k (.b true))⟩]))))
  (rg false [⟨some 10, none, .mv (.t 4)⟩, ⟨some 11, none, .bin .add (.t 10) (.k (.i .i64 1))⟩, ⟨some 4, none, .mv (.t 11)⟩])))
noncomputable def c_strings_makeASCIISet : AFn := ⟨false, 1, 21, [.cell true 256 2, .tmp 3],
  (.seq (rg false [⟨some 2, none, .alloc 222 (T.arr 256 T.b).zc⟩, ⟨some 3, none, .mv (.k (.b false))⟩])
  (.seq (.seq (rg false [⟨some 4, none, .mv (.k (.i .i64 0))⟩])
  (.blk 0
   (.loop [0, 2, 4] c_strings_makeASCIISet_l0)))
  (.seq (rg false [⟨some 20, none, .ld true 256 (.t 2)⟩, ⟨none, none, .st 256 (.t 2) (.t 20)⟩, ⟨some 3, none, .mv (.k (.b true))⟩])
  .ret)))⟩
noncomputable def c_p_strings_asciiSet_contains : AFn := ⟨false, 2, 10, [.tmp 4],
  (.seq (rg false [⟨some 4, none, .mv (.k (.b false))⟩])
  (.seq (rg false [⟨some 5, none, .mv (.t 0)⟩, ⟨some 6, none, .mv (.t 1)⟩, ⟨some 7, none, .nilc (.t 5)⟩, ⟨some 8, none, .iaa 256 1 (.t 7) (.t 6)⟩, ⟨some 9, none, .ld false 1 (.t 8)⟩, ⟨some 4, none, .mv (.t 9)⟩])
  .ret))⟩
noncomputable def c_internal_stringslite_Index_l0 : AC :=
  (.seq (.seq (rg false [⟨some 57, none, .mv (.t 8)⟩, ⟨some 58, none, .mv (.t 9)⟩, ⟨some 59, none, .bin .lss (.t 57) (.t 58)⟩])
  (.cond (.t 59)
   .skip
   (.exit 1)))
  (.blk 2
   (.seq (.seq (rg false [⟨some 60, none, .mv (.t 0)⟩, ⟨some 61, none, .mv (.t 8)⟩, ⟨some 62, none, .ixs (.t 60) (.t 61)⟩, ⟨some 63, none, .mv (.t 6)⟩, ⟨some 64, none, .bin .neq (.t 62) (.t 63)⟩])
   (.cond (.t 64)
    (.seq (rg false [⟨some 65, none, .mv (.t 0)⟩, ⟨some 66, none, .mv (.t 8)⟩, ⟨some 67, none, .bin .add (.t 66) (.k (.i .i64 1))⟩, ⟨some 68, none, .mv (.t 9)⟩, ⟨some 69, none, .sls (.t 65) (some (.t 67)) (some (.t 68))⟩, ⟨some 70, none, .mv (.t 6)⟩, ⟨some 71, none, .call fn_internal_stringslite_IndexByte [(.t 69), (.t 70)]⟩, ⟨some 11, none, .mv (.t 71)⟩])
    (.seq (.seq (rg false [⟨some 72, none, .mv (.t 11)⟩, ⟨some 73, none, .bin .lss (.t 72) (.k (.i .i64 0))⟩])
    (.cond (.t 73)
     (.seq (rg false [⟨some 4, none, .mv (.k (.i .i64 (-1)))⟩])
     .ret)
     .skip))
    (rg false [⟨some 74, none, .mv (.t 8)⟩, ⟨some 75, none, .mv (.t 11)⟩, ⟨some 76, none, .bin .add (.t 75) (.k (.i .i64 1))⟩, ⟨some 77, none, .bin .add (.t 74) (.t 76)⟩, ⟨some 8, none, .mv (.t 77)⟩])))
    .skip))
   (.seq (.seq (rg false [⟨some 78, none, .mv (.t 0)⟩, ⟨some 79, none, .mv (.t 8)⟩, ⟨some 80, none, .bin .add (.t 79) (.k (.i .i64 1))⟩, ⟨some 81, none, .ixs (.t 78) (.t 80)⟩, ⟨some 82, none, .mv (.t 7)⟩, ⟨some 83, none, .bin .eql (.t 81) (.t 82)⟩, ⟨some 84, none, .mv (.t 83)⟩, ⟨some 85, some (84, true), .mv (.t 0)⟩, ⟨some 86, some (84, true), .mv (.t 8)⟩, ⟨some 87, some (84, true), .mv (.t 8)⟩, ⟨some 88, some (84, true), .mv (.t 5)⟩, ⟨some 89, some (84, true), .bin .add (.t 87) (.t 88)⟩, ⟨some 90, some (84, true), .sls (.t 85) (some (.t 86)) (some (.t 89))⟩, ⟨some 91, some (84, true), .mv (.t 1)⟩, ⟨some 92, some (84, true), .bin .eql (.t 90) (.t 91)⟩, ⟨some 93, none, .pick (.t 84) (.t 92) (.k (.b false))⟩])
   (.cond (.t 93)
    (.seq (rg false [⟨some 94, none, .mv (.t 8)⟩, ⟨some 4, none, .mv (.t 94)⟩])
    .ret)
    .skip))
   (.seq (rg false [⟨some 95, none, .mv (.t 8)⟩, ⟨some 96, none, .bin .add (.t 95) (.k (.i .i64 1))⟩, ⟨some 8, none, .mv (.t 96)⟩])
   (.seq (rg false [⟨some 97, none, .mv (.t 10)⟩, ⟨some 98, none, .bin .add (.t 97) (.k (.i .i64 1))⟩, ⟨some 10, none, .mv (.t 98)⟩])
   (.seq (rg false [⟨some 99, none, .mv (.t 5)⟩, ⟨some 100, none, .ld false 1 (.g 1)⟩, ⟨some 101, none, .bin .leq (.t 99) (.t 100)⟩, ⟨some 102, none, .mv (.t 101)⟩, ⟨some 103, some (102, true), .mv (.t 10)⟩, ⟨some 104, some (102, true), .mv (.t 8)⟩, ⟨some 105, some (102, true), .call fn_internal_bytealg_Cutover [(.t 104)]⟩, ⟨some 106, some (102, true), .bin .gtr (.t 103) (.t 105)⟩, ⟨some 107, none, .pick (.t 102) (.t 106) (.k (.b false))⟩])
   (.cond (.t 107)
    (.seq (rg false [⟨some 108, none, .mv (.t 0)⟩, ⟨some 109, none, .mv (.t 8)⟩, ⟨some 110, none, .sls (.t 108) (some (.t 109)) none⟩, ⟨some 111, none, .mv (.t 1)⟩, ⟨some 112, none, .call fn_internal_bytealg_IndexString [(.t 110), (.t 111)]⟩, ⟨some 12, none, .mv (.t 112)⟩])
    (.seq (.seq (rg false [⟨some 113, none, .mv (.t 12)⟩, ⟨some 114, none, .bin .geq (.t 113) (.k (.i .i64 0))⟩])
    (.cond (.t 114)
     (.seq (rg false [⟨some 115, none, .mv (.t 12)⟩, ⟨some 116, none, .mv (.t 8)⟩, ⟨some 117, none, .bin .add (.t 115) (.t 116)⟩, ⟨some 4, none, .mv (.t 117)⟩])
     .ret)
     .skip))
    (.seq (rg false [⟨some 4, none, .mv (.k (.i .i64 (-1)))⟩])
    .ret)))
    (.seq (rg false [⟨some 118, none, .mv (.t 5)⟩, ⟨some 119, none, .ld false 1 (.g 1)⟩, ⟨some 120, none, .bin .gtr (.t 118) (.t 119)⟩, ⟨some 121, none, .mv (.t 120)⟩, ⟨some 122, some (121, true), .mv (.t 10)⟩, ⟨some 123, some (121, true), .mv (.t 8)⟩, ⟨some 124, some (121, true), .bin .shr (.t 123) (.k (.i .u64 4))⟩, ⟨some 125, some (121, true), .bin .add (.k (.i .i64 4)) (.t 124)⟩, ⟨some 126, some (121, true), .bin .geq (.t 122) (.t 125)⟩, ⟨some 127, none, .pick (.t 121) (.t 126) (.k (.b false))⟩, ⟨some 128, none, .mv (.t 127)⟩, ⟨some 129, some (128, true), .mv (.t 8)⟩, ⟨some 130, some (128, true), .mv (.t 9)⟩, ⟨some 131, some (128, true), .bin .lss (.t 129) (.t 130)⟩, ⟨some 132, none, .pick (.t 128) (.t 131) (.k (.b false))⟩])
    (.cond (.t 132)
     (.seq (rg false [⟨some 133, none, .mv (.t 0)⟩, ⟨some 134, none, .mv (.t 8)⟩, ⟨some 135, none, .sls (.t 133) (some (.t 134)) none⟩, ⟨some 136, none, .mv (.t 1)⟩, ⟨some 137, none, .call fn_internal_bytealg_IndexRabinKarp_string [(.t 135), (.t 136)]⟩, ⟨some 13, none, .mv (.t 137)⟩])
     (.seq (.seq (rg false [⟨some 138, none, .mv (.t 13)⟩, ⟨some 139, none, .bin .lss (.t 138) (.k (.i .i64 0))⟩])
     (.cond (.t 139)
      (.seq (rg false [⟨some 4, none, .mv (.k (.i .i64 (-1)))⟩])
      .ret)
      .skip))
     (.seq (rg false [⟨some 140, none, .mv (.t 8)⟩, ⟨some 141, none, .mv (.t 13)⟩, ⟨some 142, none, .bin .add (.t 140) (.t 141)⟩, ⟨some 4, none, .mv (.t 142)⟩])
     .ret)))
     .skip))))))))))
noncomputable def c_internal_stringslite_Index : AFn := ⟨false, 2, 143, [.tmp 4],
  (.seq (rg false [⟨some 4, none, .mv (.k (.i .i64 0))⟩])
  (.seq (rg false [⟨some 14, none, .mv (.t 1)⟩, ⟨some 15, none, .lens (.t 14)⟩, ⟨some 5, none, .mv (.t 15)⟩])
  (.seq (.blk 0
   (.seq (rg false [⟨some 17, none, .mv (.t 5)⟩, ⟨some 18, none, .bin .eql (.t 17) (.k (.i .i64 0))⟩, ⟨some 19, none, .mv (.t 18)⟩, ⟨some 20, some (19, false), .mv (.t 1)⟩, ⟨some 21, some (19, false), .mv (.t 0)⟩, ⟨some 22, some (19, false), .bin .eql (.t 20) (.t 21)⟩, ⟨some 23, none, .pick (.t 19) (.k (.b true)) (.t 22)⟩, ⟨some 16, none, .mv (.t 23)⟩])
   (.cond (.t 16)
    (.seq (rg false [⟨some 4, none, .mv (.k (.i .i64 0))⟩])
    .ret)
    (.seq (rg false [⟨some 25, none, .mv (.t 5)⟩, ⟨some 26, none, .bin .eql (.t 25) (.k (.i .i64 1))⟩, ⟨some 24, none, .mv (.t 26)⟩])
    (.cond (.t 24)
     (.seq (rg false [⟨some 27, none, .mv (.t 0)⟩, ⟨some 28, none, .mv (.t 1)⟩, ⟨some 29, none, .ixs (.t 28) (.k (.i .i64 0))⟩, ⟨some 30, none, .call fn_internal_stringslite_IndexByte [(.t 27), (.t 29)]⟩, ⟨some 4, none, .mv (.t 30)⟩])
     .ret)
     (.seq (rg false [⟨some 32, none, .mv (.t 5)⟩, ⟨some 33, none, .mv (.t 0)⟩, ⟨some 34, none, .lens (.t 33)⟩, ⟨some 35, none, .bin .geq (.t 32) (.t 34)⟩, ⟨some 31, none, .mv (.t 35)⟩])
     (.cond (.t 31)
      (.seq (rg false [⟨some 4, none, .mv (.k (.i .i64 (-1)))⟩])
      .ret)
      (.seq (rg false [⟨some 37, none, .mv (.t 5)⟩, ⟨some 38, none, .ld false 1 (.g 1)⟩, ⟨some 39, none, .bin .leq (.t 37) (.t 38)⟩, ⟨some 40, none, .mv (.t 39)⟩, ⟨some 41, some (40, true), .mv (.t 0)⟩, ⟨some 42, some (40, true), .lens (.t 41)⟩, ⟨some 43, some (40, true), .bin .leq (.t 42) (.k (.i .i64 64))⟩, ⟨some 44, none, .pick (.t 40) (.t 43) (.k (.b false))⟩, ⟨some 36, none, .mv (.t 44)⟩])
      (.cond (.t 36)
       (.seq (rg false [⟨some 45, none, .mv (.t 0)⟩, ⟨some 46, none, .mv (.t 1)⟩, ⟨some 47, none, .call fn_internal_bytealg_IndexString [(.t 45), (.t 46)]⟩, ⟨some 4, none, .mv (.t 47)⟩])
       .ret)
       .skip)))))))))
  (.seq (rg false [⟨some 48, none, .mv (.t 1)⟩, ⟨some 49, none, .ixs (.t 48) (.k (.i .i64 0))⟩, ⟨some 6, none, .mv (.t 49)⟩])
  (.seq (rg false [⟨some 50, none, .mv (.t 1)⟩, ⟨some 51, none, .ixs (.t 50) (.k (.i .i64 1))⟩, ⟨some 7, none, .mv (.t 51)⟩])
  (.seq (rg false [⟨some 8, none, .mv (.k (.i .i64 0))⟩])
  (.seq (rg false [⟨some 52, none, .mv (.t 0)⟩, ⟨some 53, none, .lens (.t 52)⟩, ⟨some 54, none, .mv (.t 5)⟩, ⟨some 55, none, .bin .sub (.t 53) (.t 54)⟩, ⟨some 56, none, .bin .add (.t 55) (.k (.i .i64 1))⟩, ⟨some 9, none, .mv (.t 56)⟩])
  (.seq (rg false [⟨some 10, none, .mv (.k (.i .i64 0))⟩])
  (.seq (.blk 1
   (.loop [0, 1, 5, 6, 7, 8, 9, 10] c_internal_stringslite_Index_l0))
  (.seq (rg false [⟨some 4, none, .mv (.k (.i .i64 (-1)))⟩])
  .ret))))))))))⟩
noncomputable def c_field_keyed_2 : AFn := ⟨false, 1, 7, [.tmp 2, .tmp 3],
  (.seq (rg false [⟨some 1, none, .box 93 70 (.t 0)⟩, ⟨some 2, none, .mv (.k (.s []))⟩, ⟨some 3, none, .mv (.k (.b false))⟩])
  (.seq (rg false [⟨some 4, none, .fa 1 (.t 1)⟩, ⟨some 5, none, .ld true 32 (.t 4)⟩, ⟨some 6, none, .call fn_keys_Hex [(.t 5)]⟩, ⟨some 2, none, .mv (.t 6)⟩, ⟨some 3, none, .mv (.k (.b true))⟩])
  .ret))⟩
noncomputable def c_field_keyed_3 : AFn := ⟨false, 1, 6, [.cell true 70 2],
  (.seq (rg false [⟨some 1, none, .box 93 70 (.t 0)⟩, ⟨some 2, none, .alloc 93 T_api_Field.zc⟩])
  (.seq (rg false [⟨some 3, none, .bld (T.arr 32 T.u8).zc []⟩, ⟨some 4, none, .fa 1 (.t 1)⟩, ⟨none, none, .st 32 (.t 4) (.t 3)⟩])
  (.seq (rg false [⟨some 5, none, .ld true 70 (.t 1)⟩, ⟨none, none, .st 70 (.t 2) (.t 5)⟩])
  .ret)))⟩
noncomputable def c_field_ended_3 : AFn := ⟨false, 1, 6, [.cell true 70 2],
  (.seq (rg false [⟨some 1, none, .box 93 70 (.t 0)⟩, ⟨some 2, none, .alloc 93 T_api_Field.zc⟩])
  (.seq (rg false [⟨some 3, none, .bld T_api_Endpoint.zc []⟩, ⟨some 4, none, .fa 34 (.t 1)⟩, ⟨none, none, .st 18 (.t 4) (.t 3)⟩])
  (.seq (rg false [⟨some 5, none, .ld true 70 (.t 1)⟩, ⟨none, none, .st 70 (.t 2) (.t 5)⟩])
  .ret)))⟩
noncomputable def c_field_allowed_3 : AFn := ⟨false, 1, 6, [.cell true 70 2],
  (.seq (rg false [⟨some 1, none, .box 93 70 (.t 0)⟩, ⟨some 2, none, .alloc 93 T_api_Field.zc⟩])
  (.seq (rg false [⟨some 3, none, .bld T_api_Prefix.zc []⟩, ⟨some 4, none, .fa 52 (.t 1)⟩, ⟨none, none, .st 18 (.t 4) (.t 3)⟩])
  (.seq (rg false [⟨some 5, none, .ld true 70 (.t 1)⟩, ⟨none, none, .st 70 (.t 2) (.t 5)⟩])
  .ret)))⟩
noncomputable def c_field_counted_2 : AFn := ⟨true, 3, 19, [.tmp 4, .tmp 5],
  (.seq (rg false [⟨some 3, none, .box 93 70 (.t 0)⟩, ⟨some 4, none, .mv (.k (.s []))⟩, ⟨some 5, none, .mv (.k (.b false))⟩])
  (.seq (rg true [⟨some 6, none, .fa 33 (.t 3)⟩, ⟨some 7, none, .ld false 1 (.t 6)⟩, ⟨some 8, none, .call fn_decimal_Text [(.t 7)]⟩, ⟨some 9, none, .fa 33 (.t 3)⟩, ⟨some 10, none, .ld false 1 (.t 9)⟩, ⟨some 11, none, .ld false 1 (.t 1)⟩, ⟨some 12, none, .bin .geq (.t 10) (.t 11)⟩, ⟨some 13, none, .mv (.t 12)⟩, ⟨some 14, some (13, true), .fa 33 (.t 3)⟩, ⟨some 15, some (13, true), .ld false 1 (.t 14)⟩, ⟨some 16, some (13, true), .ld false 1 (.t 2)⟩, ⟨some 17, some (13, true), .bin .leq (.t 15) (.t 16)⟩, ⟨some 18, none, .pick (.t 13) (.t 17) (.k (.b false))⟩, ⟨some 4, none, .mv (.t 8)⟩, ⟨some 5, none, .mv (.t 18)⟩])
  .ret))⟩
noncomputable def c_field_counted_3 : AFn := ⟨false, 1, 5, [.cell true 70 2],
  (.seq (rg false [⟨some 1, none, .box 93 70 (.t 0)⟩, ⟨some 2, none, .alloc 93 T_api_Field.zc⟩])
  (.seq (rg false [⟨some 3, none, .fa 33 (.t 1)⟩, ⟨none, none, .st 1 (.t 3) (.k (.i .u64 0))⟩])
  (.seq (rg false [⟨some 4, none, .ld true 70 (.t 1)⟩, ⟨none, none, .st 70 (.t 2) (.t 4)⟩])
  .ret)))⟩
noncomputable def c_field_said_2 : AFn := ⟨false, 1, 4, [.tmp 2, .tmp 3],
  (.seq (rg false [⟨some 1, none, .box 93 70 (.t 0)⟩, ⟨some 2, none, .mv (.k (.s []))⟩, ⟨some 3, none, .mv (.k (.b false))⟩])
  (.seq (rg false [⟨some 2, none, .mv (.k (.s [116, 114, 117, 101]))⟩, ⟨some 3, none, .mv (.k (.b true))⟩])
  .ret))⟩
noncomputable def c_field_said_3 : AFn := ⟨false, 1, 4, [.cell true 70 2],
  (.seq (rg false [⟨some 1, none, .box 93 70 (.t 0)⟩, ⟨some 2, none, .alloc 93 T_api_Field.zc⟩])
  (.seq (rg false [⟨some 3, none, .ld true 70 (.t 1)⟩, ⟨none, none, .st 70 (.t 2) (.t 3)⟩])
  .ret))⟩
noncomputable def c_internal_strconv_small : AFn := ⟨false, 1, 15, [.tmp 2],
  (.seq (rg false [⟨some 2, none, .mv (.k (.s []))⟩])
  (.seq (.seq (rg false [⟨some 3, none, .mv (.t 0)⟩, ⟨some 4, none, .bin .lss (.t 3) (.k (.i .i64 10))⟩])
  (.cond (.t 4)
   (.seq (rg false [⟨some 5, none, .mv (.t 0)⟩, ⟨some 6, none, .mv (.t 0)⟩, ⟨some 7, none, .bin .add (.t 6) (.k (.i .i64 1))⟩, ⟨some 8, none, .sls (.k (.s [48, 49, 50, 51, 52, 53, 54, 55, 56, 57, 97, 98, 99, 100, 101, 102, 103, 104, 105, 106, 107, 108, 109, 110, 111, 112, 113, 114, 115, 116, 117, 118, 119, 120, 121, 122])) (some (.t 5)) (some (.t 7))⟩, ⟨some 2, none, .mv (.t 8)⟩])
   .ret)
   .skip))
  (.seq (rg false [⟨some 9, none, .mv (.t 0)⟩, ⟨some 10, none, .bin .mul (.t 9) (.k (.i .i64 2))⟩, ⟨some 11, none, .mv (.t 0)⟩, ⟨some 12, none, .bin .mul (.t 11) (.k (.i .i64 2))⟩, ⟨some 13, none, .bin .add (.t 12) (.k (.i .i64 2))⟩, ⟨some 14, none, .sls (.k (.s [48, 48, 48, 49, 48, 50, 48, 51, 48, 52, 48, 53, 48, 54, 48, 55, 48, 56, 48, 57, 49, 48, 49, 49, 49, 50, 49, 51, 49, 52, 49, 53, 49, 54, 49, 55, 49, 56, 49, 57, 50, 48, 50, 49, 50, 50, 50, 51, 50, 52, 50, 53, 50, 54, 50, 55, 50, 56, 50, 57, 51, 48, 51, 49, 51, 50, 51, 51, 51, 52, 51, 53, 51, 54, 51, 55, 51, 56, 51, 57, 52, 48, 52, 49, 52, 50, 52, 51, 52, 52, 52, 53, 52, 54, 52, 55, 52, 56, 52, 57, 53, 48, 53, 49, 53, 50, 53, 51, 53, 52, 53, 53, 53, 54, 53, 55, 53, 56, 53, 57, 54, 48, 54, 49, 54, 50, 54, 51, 54, 52, 54, 53, 54, 54, 54, 55, 54, 56, 54, 57, 55, 48, 55, 49, 55, 50, 55, 51, 55, 52, 55, 53, 55, 54, 55, 55, 55, 56, 55, 57, 56, 48, 56, 49, 56, 50, 56, 51, 56, 52, 56, 53, 56, 54, 56, 55, 56, 56, 56, 57, 57, 48, 57, 49, 57, 50, 57, 51, 57, 52, 57, 53, 57, 54, 57, 55, 57, 56, 57, 57])) (some (.t 10)) (some (.t 13))⟩, ⟨some 2, none, .mv (.t 14)⟩])
  .ret)))⟩
noncomputable def c_internal_strconv_numDigits : AFn := ⟨false, 1, 15, [.tmp 2],
  (.seq (rg false [⟨some 2, none, .mv (.k (.i .i64 0))⟩])
  (.seq (rg false [⟨some 4, none, .mv (.t 0)⟩, ⟨some 5, none, .call fn_math_bits_Len64 [(.t 4)]⟩, ⟨some 6, none, .call fn_internal_strconv_log10Pow2 [(.t 5)]⟩, ⟨some 3, none, .mv (.t 6)⟩])
  (.seq (rg false [⟨some 7, none, .mv (.t 3)⟩, ⟨some 8, none, .mv (.t 0)⟩, ⟨some 9, none, .mv (.t 3)⟩, ⟨some 10, none, .iaa 20 1 (.g 2) (.t 9)⟩, ⟨some 11, none, .ld false 1 (.t 10)⟩, ⟨some 12, none, .bin .geq (.t 8) (.t 11)⟩, ⟨some 13, none, .call fn_internal_strconv_bool2_int [(.t 12)]⟩, ⟨some 14, none, .bin .add (.t 7) (.t 13)⟩, ⟨some 2, none, .mv (.t 14)⟩])
  .ret)))⟩
noncomputable def c_unicode_utf8_ValidRune : AFn := ⟨false, 1, 17, [.tmp 2],
  (.seq (rg false [⟨some 2, none, .mv (.k (.b false))⟩])
  (.seq (.blk 0
   (.seq (rg false [⟨some 4, none, .mv (.t 0)⟩, ⟨some 5, none, .bin .leq (.k (.i .i32 0)) (.t 4)⟩, ⟨some 6, none, .mv (.t 5)⟩, ⟨some 7, some (6, true), .mv (.t 0)⟩, ⟨some 8, some (6, true), .bin .lss (.t 7) (.k (.i .i32 55296))⟩, ⟨some 9, none, .pick (.t 6) (.t 8) (.k (.b false))⟩, ⟨some 3, none, .mv (.t 9)⟩])
   (.cond (.t 3)
    (.seq (rg false [⟨some 2, none, .mv (.k (.b true))⟩])
    .ret)
    (.seq (rg false [⟨some 11, none, .mv (.t 0)⟩, ⟨some 12, none, .bin .lss (.k (.i .i32 57343)) (.t 11)⟩, ⟨some 13, none, .mv (.t 12)⟩, ⟨some 14, some (13, true), .mv (.t 0)⟩, ⟨some 15, some (13, true), .bin .leq (.t 14) (.k (.i .i32 1114111))⟩, ⟨some 16, none, .pick (.t 13) (.t 15) (.k (.b false))⟩, ⟨some 10, none, .mv (.t 16)⟩])
    (.cond (.t 10)
     (.seq (rg false [⟨some 2, none, .mv (.k (.b true))⟩])
     .ret)
     .skip)))))
  (.seq (rg false [⟨some 2, none, .mv (.k (.b false))⟩])
  .ret)))⟩
noncomputable def c_internal_bytealg_Cutover : AFn := ⟨false, 1, 6, [.tmp 2],
  (.seq (rg false [⟨some 2, none, .mv (.k (.i .i64 0))⟩])
  (.seq (rg false [⟨some 3, none, .mv (.t 0)⟩, ⟨some 4, none, .bin .add (.t 3) (.k (.i .i64 16))⟩, ⟨some 5, none, .bin .quo (.t 4) (.k (.i .i64 8))⟩, ⟨some 2, none, .mv (.t 5)⟩])
  .ret))⟩
noncomputable def c_internal_strconv_log10Pow2 : AFn := ⟨false, 1, 6, [.tmp 2],
  (.seq (rg false [⟨some 2, none, .mv (.k (.i .i64 0))⟩])
  (.seq (rg false [⟨some 3, none, .mv (.t 0)⟩, ⟨some 4, none, .bin .mul (.t 3) (.k (.i .i64 78913))⟩, ⟨some 5, none, .bin .shr (.t 4) (.k (.i .u64 18))⟩, ⟨some 2, none, .mv (.t 5)⟩])
  .ret))⟩
noncomputable def c_math_bits_Len64 : AFn := ⟨false, 1, 25, [.tmp 2],
  (.seq (rg false [⟨some 2, none, .mv (.k (.i .i64 0))⟩])
  (.seq (.seq (rg false [⟨some 3, none, .mv (.t 0)⟩, ⟨some 4, none, .bin .geq (.t 3) (.k (.i .u64 4294967296))⟩])
  (.cond (.t 4)
   (.seq (rg false [⟨some 5, none, .mv (.t 0)⟩, ⟨some 6, none, .bin .shr (.t 5) (.k (.i .u64 32))⟩, ⟨some 0, none, .mv (.t 6)⟩])
   (rg false [⟨some 2, none, .mv (.k (.i .i64 32))⟩]))
   .skip))
  (.seq (.seq (rg false [⟨some 7, none, .mv (.t 0)⟩, ⟨some 8, none, .bin .geq (.t 7) (.k (.i .u64 65536))⟩])
  (.cond (.t 8)
   (.seq (rg false [⟨some 9, none, .mv (.t 0)⟩, ⟨some 10, none, .bin .shr (.t 9) (.k (.i .u64 16))⟩, ⟨some 0, none, .mv (.t 10)⟩])
   (rg false [⟨some 11, none, .mv (.t 2)⟩, ⟨some 12, none, .bin .add (.t 11) (.k (.i .i64 16))⟩, ⟨some 2, none, .mv (.t 12)⟩]))
   .skip))
  (.seq (.seq (rg false [⟨some 13, none, .mv (.t 0)⟩, ⟨some 14, none, .bin .geq (.t 13) (.k (.i .u64 256))⟩])
  (.cond (.t 14)
   (.seq (rg false [⟨some 15, none, .mv (.t 0)⟩, ⟨some 16, none, .bin .shr (.t 15) (.k (.i .u64 8))⟩, ⟨some 0, none, .mv (.t 16)⟩])
   (rg false [⟨some 17, none, .mv (.t 2)⟩, ⟨some 18, none, .bin .add (.t 17) (.k (.i .i64 8))⟩, ⟨some 2, none, .mv (.t 18)⟩]))
   .skip))
  (.seq (rg false [⟨some 19, none, .mv (.t 2)⟩, ⟨some 20, none, .mv (.t 0)⟩, ⟨some 21, none, .cvi .u8 (.t 20)⟩, ⟨some 22, none, .ixs (.k (.s [0, 1, 2, 2, 3, 3, 3, 3, 4, 4, 4, 4, 4, 4, 4, 4, 5, 5, 5, 5, 5, 5, 5, 5, 5, 5, 5, 5, 5, 5, 5, 5, 6, 6, 6, 6, 6, 6, 6, 6, 6, 6, 6, 6, 6, 6, 6, 6, 6, 6, 6, 6, 6, 6, 6, 6, 6, 6, 6, 6, 6, 6, 6, 6, 7, 7, 7, 7, 7, 7, 7, 7, 7, 7, 7, 7, 7, 7, 7, 7, 7, 7, 7, 7, 7, 7, 7, 7, 7, 7, 7, 7, 7, 7, 7, 7, 7, 7, 7, 7, 7, 7, 7, 7, 7, 7, 7, 7, 7, 7, 7, 7, 7, 7, 7, 7, 7, 7, 7, 7, 7, 7, 7, 7, 7, 7, 7, 7, 8, 8, 8, 8, 8, 8, 8, 8, 8, 8, 8, 8, 8, 8, 8, 8, 8, 8, 8, 8, 8, 8, 8, 8, 8, 8, 8, 8, 8, 8, 8, 8, 8, 8, 8, 8, 8, 8, 8, 8, 8, 8, 8, 8, 8, 8, 8, 8, 8, 8, 8, 8, 8, 8, 8, 8, 8, 8, 8, 8, 8, 8, 8, 8, 8, 8, 8, 8, 8, 8, 8, 8, 8, 8, 8, 8, 8, 8, 8, 8, 8, 8, 8, 8, 8, 8, 8, 8, 8, 8, 8, 8, 8, 8, 8, 8, 8, 8, 8, 8, 8, 8, 8, 8, 8, 8, 8, 8, 8, 8, 8, 8, 8, 8, 8, 8, 8, 8, 8, 8, 8, 8, 8, 8, 8, 8, 8, 8])) (.t 21)⟩, ⟨some 23, none, .cvi .i64 (.t 22)⟩, ⟨some 24, none, .bin .add (.t 19) (.t 23)⟩, ⟨some 2, none, .mv (.t 24)⟩])
  .ret)))))⟩
noncomputable def c_internal_strconv_bool2_int : AFn := ⟨false, 1, 4, [.tmp 2],
  (.seq (rg false [⟨some 2, none, .mv (.k (.i .i64 0))⟩])
  (.seq (.seq (rg false [⟨some 3, none, .mv (.t 0)⟩])
  (.cond (.t 3)
   (.seq (rg false [⟨some 2, none, .mv (.k (.i .i64 1))⟩])
   .ret)
   .skip))
  (.seq (rg false [⟨some 2, none, .mv (.k (.i .i64 0))⟩])
  .ret)))⟩
def gx_0 : (Ar Str 17) := ⟨[[], [112, 114, 105, 118, 97, 116, 101, 95, 107, 101, 121], [108, 105, 115, 116, 101, 110, 95, 112, 111, 114, 116], [102, 119, 109, 97, 114, 107], [114, 101, 112, 108, 97, 99, 101, 95, 112, 101, 101, 114, 115], [112, 117, 98, 108, 105, 99, 95, 107, 101, 121], [114, 101, 109, 111, 118, 101], [117, 112, 100, 97, 116, 101, 95, 111, 110, 108, 121], [112, 114, 101, 115, 104, 97, 114, 101, 100, 95, 107, 101, 121], [101, 110, 100, 112, 111, 105, 110, 116], [112, 101, 114, 115, 105, 115, 116, 101, 110, 116, 95, 107, 101, 101, 112, 97, 108, 105, 118, 101, 95, 105, 110, 116, 101, 114, 118, 97, 108], [114, 101, 112, 108, 97, 99, 101, 95, 97, 108, 108, 111, 119, 101, 100, 95, 105, 112, 115], [97, 108, 108, 111, 119, 101, 100, 95, 105, 112], [112, 114, 111, 116, 111, 99, 111, 108, 95, 118, 101, 114, 115, 105, 111, 110], [116, 120, 95, 98, 121, 116, 101, 115], [114, 120, 95, 98, 121, 116, 101, 115], [101, 114, 114, 110, 111]], rfl⟩
def gl_0 : List AV := gx_0.l.map AV.s
theorem gm_0 : mentL gl_0 = 0 := tab_m AV.s (fun _ => rfl) _
theorem gr_0 : ∀ P H, (T.arr 17 T.str).R P H gl_0 gx_0 := fun _ _ => tab_R gx_0
def gx_2 : (Ar UInt64 20) := ⟨[1, 10, 100, 1000, 10000, 100000, 1000000, 10000000, 100000000, 1000000000, 10000000000, 100000000000, 1000000000000, 10000000000000, 100000000000000, 1000000000000000, 10000000000000000, 100000000000000000, 1000000000000000000, 10000000000000000000], rfl⟩
def gl_2 : List AV := gx_2.l.map (fun (x : UInt64) => AV.i .u64 x.toNat)
theorem gm_2 : mentL gl_2 = 0 := tab_m (fun (x : UInt64) => AV.i .u64 x.toNat) (fun _ => rfl) _
theorem gr_2 : ∀ P H, (T.arr 20 T.u64).R P H gl_2 gx_2 := fun _ _ => tab_R gx_2
noncomputable def gll : List (Nat × List AV) := [(0, gl_0), (2, gl_2)]
noncomputable def fnl : List (Nat × AFn) := [(fn_l39_GetresRefuses, c_l39_GetresRefuses),
  (fn_r06_Loose, c_r06_Loose),
  (fn_l39_alive, c_l39_alive),
  (fn_getres_Text, c_getres_Text),
  (fn_getres_Refusal, c_getres_Refusal),
  (fn_r39_Refusal, c_r39_Refusal),
  (fn_r03_Text, c_r03_Text),
  (fn_r06_Parts, c_r06_Parts),
  (fn_lines_Join, c_lines_Join),
  (fn_view_Right, c_view_Right),
  (fn_getres_peer, c_getres_peer),
  (fn_pairline_Block, c_pairline_Block),
  (fn_getres_pairs, c_getres_pairs),
  (fn_p_strings_Builder_WriteString, c_p_strings_Builder_WriteString),
  (fn_p_strings_Builder_String, c_p_strings_Builder_String),
  (fn_view_short, c_view_short),
  (fn_view_rising, c_view_rising),
  (fn_hostport_None, c_hostport_None),
  (fn_hostport_Right, c_hostport_Right),
  (fn_pairline_Text, c_pairline_Text),
  (fn_field_Pair, c_field_Pair),
  (fn_hexes_Encode, c_hexes_Encode),
  (fn_keys_Hex, c_keys_Hex),
  (fn_decimal_Text, c_decimal_Text),
  (fn_p_strings_Builder_copyCheck, c_p_strings_Builder_copyCheck),
  (fn_strings_IndexByte, c_strings_IndexByte),
  (fn_cidr_Right, c_cidr_Right),
  (fn_cidr_Less, c_cidr_Less),
  (fn_addr_Right, c_addr_Right),
  (fn_strings_ContainsAny, c_strings_ContainsAny),
  (fn_strings_Contains, c_strings_Contains),
  (fn_field_Right, c_field_Right),
  (fn_field_shapeOf, c_field_shapeOf),
  (fn_field_Name, c_field_Name),
  (fn_p_strings_Builder_WriteByte, c_p_strings_Builder_WriteByte),
  (fn_addr_Width, c_addr_Width),
  (fn_strconv_FormatUint, c_strconv_FormatUint),
  (fn_internal_stringslite_IndexByte, c_internal_stringslite_IndexByte),
  (fn_cidr_Of, c_cidr_Of),
  (fn_addr_Less, c_addr_Less),
  (fn_addr_Four, c_addr_Four),
  (fn_strings_IndexAny, c_strings_IndexAny),
  (fn_strings_Index, c_strings_Index),
  (fn_field_keyed, c_field_keyed),
  (fn_field_ended, c_field_ended),
  (fn_field_allowed, c_field_allowed),
  (fn_field_counted, c_field_counted),
  (fn_field_said, c_field_said),
  (fn_internal_strconv_FormatUint, c_internal_strconv_FormatUint),
  (fn_addr_Mask, c_addr_Mask),
  (fn_bytes_Compare, c_bytes_Compare),
  (fn_strings_IndexRune, c_strings_IndexRune),
  (fn_strings_shouldUseASCIISet, c_strings_shouldUseASCIISet),
  (fn_strings_makeASCIISet, c_strings_makeASCIISet),
  (fn_p_strings_asciiSet_contains, c_p_strings_asciiSet_contains),
  (fn_internal_stringslite_Index, c_internal_stringslite_Index),
  (fn_field_keyed_2, c_field_keyed_2),
  (fn_field_keyed_3, c_field_keyed_3),
  (fn_field_ended_3, c_field_ended_3),
  (fn_field_allowed_3, c_field_allowed_3),
  (fn_field_counted_2, c_field_counted_2),
  (fn_field_counted_3, c_field_counted_3),
  (fn_field_said_2, c_field_said_2),
  (fn_field_said_3, c_field_said_3),
  (fn_internal_strconv_small, c_internal_strconv_small),
  (fn_internal_strconv_numDigits, c_internal_strconv_numDigits),
  (fn_unicode_utf8_ValidRune, c_unicode_utf8_ValidRune),
  (fn_internal_bytealg_Cutover, c_internal_bytealg_Cutover),
  (fn_internal_strconv_log10Pow2, c_internal_strconv_log10Pow2),
  (fn_math_bits_Len64, c_math_bits_Len64),
  (fn_internal_strconv_bool2_int, c_internal_strconv_bool2_int)]
def prl : List (Nat × (List AV → Heap → Option (AV × Option Heap))) := [(fn_internal_bytealg_IndexByteString, pIndexByte), (fn_internal_abi_NoEscape, pSame)]
noncomputable def tb : Tab := ⟨fun n => look n fnl, fun n => look n gll, fun n => look n prl⟩
theorem f_l39_GetresRefuses : tb.prim fn_l39_GetresRefuses = none ∧ tb.fns fn_l39_GetresRefuses = some c_l39_GetresRefuses := ⟨rfl, rfl⟩
theorem f_r06_Loose : tb.prim fn_r06_Loose = none ∧ tb.fns fn_r06_Loose = some c_r06_Loose := ⟨rfl, rfl⟩
theorem f_l39_alive : tb.prim fn_l39_alive = none ∧ tb.fns fn_l39_alive = some c_l39_alive := ⟨rfl, rfl⟩
theorem f_getres_Text : tb.prim fn_getres_Text = none ∧ tb.fns fn_getres_Text = some c_getres_Text := ⟨rfl, rfl⟩
theorem f_getres_Refusal : tb.prim fn_getres_Refusal = none ∧ tb.fns fn_getres_Refusal = some c_getres_Refusal := ⟨rfl, rfl⟩
theorem f_r39_Refusal : tb.prim fn_r39_Refusal = none ∧ tb.fns fn_r39_Refusal = some c_r39_Refusal := ⟨rfl, rfl⟩
theorem f_r03_Text : tb.prim fn_r03_Text = none ∧ tb.fns fn_r03_Text = some c_r03_Text := ⟨rfl, rfl⟩
theorem f_r06_Parts : tb.prim fn_r06_Parts = none ∧ tb.fns fn_r06_Parts = some c_r06_Parts := ⟨rfl, rfl⟩
theorem f_lines_Join : tb.prim fn_lines_Join = none ∧ tb.fns fn_lines_Join = some c_lines_Join := ⟨rfl, rfl⟩
theorem f_view_Right : tb.prim fn_view_Right = none ∧ tb.fns fn_view_Right = some c_view_Right := ⟨rfl, rfl⟩
theorem f_getres_peer : tb.prim fn_getres_peer = none ∧ tb.fns fn_getres_peer = some c_getres_peer := ⟨rfl, rfl⟩
theorem f_pairline_Block : tb.prim fn_pairline_Block = none ∧ tb.fns fn_pairline_Block = some c_pairline_Block := ⟨rfl, rfl⟩
theorem f_getres_pairs : tb.prim fn_getres_pairs = none ∧ tb.fns fn_getres_pairs = some c_getres_pairs := ⟨rfl, rfl⟩
theorem f_p_strings_Builder_WriteString : tb.prim fn_p_strings_Builder_WriteString = none ∧ tb.fns fn_p_strings_Builder_WriteString = some c_p_strings_Builder_WriteString := ⟨rfl, rfl⟩
theorem f_p_strings_Builder_String : tb.prim fn_p_strings_Builder_String = none ∧ tb.fns fn_p_strings_Builder_String = some c_p_strings_Builder_String := ⟨rfl, rfl⟩
theorem f_view_short : tb.prim fn_view_short = none ∧ tb.fns fn_view_short = some c_view_short := ⟨rfl, rfl⟩
theorem f_view_rising : tb.prim fn_view_rising = none ∧ tb.fns fn_view_rising = some c_view_rising := ⟨rfl, rfl⟩
theorem f_hostport_None : tb.prim fn_hostport_None = none ∧ tb.fns fn_hostport_None = some c_hostport_None := ⟨rfl, rfl⟩
theorem f_hostport_Right : tb.prim fn_hostport_Right = none ∧ tb.fns fn_hostport_Right = some c_hostport_Right := ⟨rfl, rfl⟩
theorem f_pairline_Text : tb.prim fn_pairline_Text = none ∧ tb.fns fn_pairline_Text = some c_pairline_Text := ⟨rfl, rfl⟩
theorem f_field_Pair : tb.prim fn_field_Pair = none ∧ tb.fns fn_field_Pair = some c_field_Pair := ⟨rfl, rfl⟩
theorem f_hexes_Encode : tb.prim fn_hexes_Encode = none ∧ tb.fns fn_hexes_Encode = some c_hexes_Encode := ⟨rfl, rfl⟩
theorem f_keys_Hex : tb.prim fn_keys_Hex = none ∧ tb.fns fn_keys_Hex = some c_keys_Hex := ⟨rfl, rfl⟩
theorem f_decimal_Text : tb.prim fn_decimal_Text = none ∧ tb.fns fn_decimal_Text = some c_decimal_Text := ⟨rfl, rfl⟩
theorem f_p_strings_Builder_copyCheck : tb.prim fn_p_strings_Builder_copyCheck = none ∧ tb.fns fn_p_strings_Builder_copyCheck = some c_p_strings_Builder_copyCheck := ⟨rfl, rfl⟩
theorem f_strings_IndexByte : tb.prim fn_strings_IndexByte = none ∧ tb.fns fn_strings_IndexByte = some c_strings_IndexByte := ⟨rfl, rfl⟩
theorem f_cidr_Right : tb.prim fn_cidr_Right = none ∧ tb.fns fn_cidr_Right = some c_cidr_Right := ⟨rfl, rfl⟩
theorem f_cidr_Less : tb.prim fn_cidr_Less = none ∧ tb.fns fn_cidr_Less = some c_cidr_Less := ⟨rfl, rfl⟩
theorem f_addr_Right : tb.prim fn_addr_Right = none ∧ tb.fns fn_addr_Right = some c_addr_Right := ⟨rfl, rfl⟩
theorem f_strings_ContainsAny : tb.prim fn_strings_ContainsAny = none ∧ tb.fns fn_strings_ContainsAny = some c_strings_ContainsAny := ⟨rfl, rfl⟩
theorem f_strings_Contains : tb.prim fn_strings_Contains = none ∧ tb.fns fn_strings_Contains = some c_strings_Contains := ⟨rfl, rfl⟩
theorem f_field_Right : tb.prim fn_field_Right = none ∧ tb.fns fn_field_Right = some c_field_Right := ⟨rfl, rfl⟩
theorem f_field_shapeOf : tb.prim fn_field_shapeOf = none ∧ tb.fns fn_field_shapeOf = some c_field_shapeOf := ⟨rfl, rfl⟩
theorem f_field_Name : tb.prim fn_field_Name = none ∧ tb.fns fn_field_Name = some c_field_Name := ⟨rfl, rfl⟩
theorem f_p_strings_Builder_WriteByte : tb.prim fn_p_strings_Builder_WriteByte = none ∧ tb.fns fn_p_strings_Builder_WriteByte = some c_p_strings_Builder_WriteByte := ⟨rfl, rfl⟩
theorem f_addr_Width : tb.prim fn_addr_Width = none ∧ tb.fns fn_addr_Width = some c_addr_Width := ⟨rfl, rfl⟩
theorem f_strconv_FormatUint : tb.prim fn_strconv_FormatUint = none ∧ tb.fns fn_strconv_FormatUint = some c_strconv_FormatUint := ⟨rfl, rfl⟩
theorem f_internal_stringslite_IndexByte : tb.prim fn_internal_stringslite_IndexByte = none ∧ tb.fns fn_internal_stringslite_IndexByte = some c_internal_stringslite_IndexByte := ⟨rfl, rfl⟩
theorem f_cidr_Of : tb.prim fn_cidr_Of = none ∧ tb.fns fn_cidr_Of = some c_cidr_Of := ⟨rfl, rfl⟩
theorem f_addr_Less : tb.prim fn_addr_Less = none ∧ tb.fns fn_addr_Less = some c_addr_Less := ⟨rfl, rfl⟩
theorem f_addr_Four : tb.prim fn_addr_Four = none ∧ tb.fns fn_addr_Four = some c_addr_Four := ⟨rfl, rfl⟩
theorem f_strings_IndexAny : tb.prim fn_strings_IndexAny = none ∧ tb.fns fn_strings_IndexAny = some c_strings_IndexAny := ⟨rfl, rfl⟩
theorem f_strings_Index : tb.prim fn_strings_Index = none ∧ tb.fns fn_strings_Index = some c_strings_Index := ⟨rfl, rfl⟩
theorem f_field_keyed : tb.prim fn_field_keyed = none ∧ tb.fns fn_field_keyed = some c_field_keyed := ⟨rfl, rfl⟩
theorem f_field_ended : tb.prim fn_field_ended = none ∧ tb.fns fn_field_ended = some c_field_ended := ⟨rfl, rfl⟩
theorem f_field_allowed : tb.prim fn_field_allowed = none ∧ tb.fns fn_field_allowed = some c_field_allowed := ⟨rfl, rfl⟩
theorem f_field_counted : tb.prim fn_field_counted = none ∧ tb.fns fn_field_counted = some c_field_counted := ⟨rfl, rfl⟩
theorem f_field_said : tb.prim fn_field_said = none ∧ tb.fns fn_field_said = some c_field_said := ⟨rfl, rfl⟩
theorem f_internal_strconv_FormatUint : tb.prim fn_internal_strconv_FormatUint = none ∧ tb.fns fn_internal_strconv_FormatUint = some c_internal_strconv_FormatUint := ⟨rfl, rfl⟩
theorem f_addr_Mask : tb.prim fn_addr_Mask = none ∧ tb.fns fn_addr_Mask = some c_addr_Mask := ⟨rfl, rfl⟩
theorem f_bytes_Compare : tb.prim fn_bytes_Compare = none ∧ tb.fns fn_bytes_Compare = some c_bytes_Compare := ⟨rfl, rfl⟩
theorem f_strings_IndexRune : tb.prim fn_strings_IndexRune = none ∧ tb.fns fn_strings_IndexRune = some c_strings_IndexRune := ⟨rfl, rfl⟩
theorem f_strings_shouldUseASCIISet : tb.prim fn_strings_shouldUseASCIISet = none ∧ tb.fns fn_strings_shouldUseASCIISet = some c_strings_shouldUseASCIISet := ⟨rfl, rfl⟩
theorem f_strings_makeASCIISet : tb.prim fn_strings_makeASCIISet = none ∧ tb.fns fn_strings_makeASCIISet = some c_strings_makeASCIISet := ⟨rfl, rfl⟩
theorem f_p_strings_asciiSet_contains : tb.prim fn_p_strings_asciiSet_contains = none ∧ tb.fns fn_p_strings_asciiSet_contains = some c_p_strings_asciiSet_contains := ⟨rfl, rfl⟩
theorem f_internal_stringslite_Index : tb.prim fn_internal_stringslite_Index = none ∧ tb.fns fn_internal_stringslite_Index = some c_internal_stringslite_Index := ⟨rfl, rfl⟩
theorem f_field_keyed_2 : tb.prim fn_field_keyed_2 = none ∧ tb.fns fn_field_keyed_2 = some c_field_keyed_2 := ⟨rfl, rfl⟩
theorem f_field_keyed_3 : tb.prim fn_field_keyed_3 = none ∧ tb.fns fn_field_keyed_3 = some c_field_keyed_3 := ⟨rfl, rfl⟩
theorem f_field_ended_3 : tb.prim fn_field_ended_3 = none ∧ tb.fns fn_field_ended_3 = some c_field_ended_3 := ⟨rfl, rfl⟩
theorem f_field_allowed_3 : tb.prim fn_field_allowed_3 = none ∧ tb.fns fn_field_allowed_3 = some c_field_allowed_3 := ⟨rfl, rfl⟩
theorem f_field_counted_2 : tb.prim fn_field_counted_2 = none ∧ tb.fns fn_field_counted_2 = some c_field_counted_2 := ⟨rfl, rfl⟩
theorem f_field_counted_3 : tb.prim fn_field_counted_3 = none ∧ tb.fns fn_field_counted_3 = some c_field_counted_3 := ⟨rfl, rfl⟩
theorem f_field_said_2 : tb.prim fn_field_said_2 = none ∧ tb.fns fn_field_said_2 = some c_field_said_2 := ⟨rfl, rfl⟩
theorem f_field_said_3 : tb.prim fn_field_said_3 = none ∧ tb.fns fn_field_said_3 = some c_field_said_3 := ⟨rfl, rfl⟩
theorem f_internal_strconv_small : tb.prim fn_internal_strconv_small = none ∧ tb.fns fn_internal_strconv_small = some c_internal_strconv_small := ⟨rfl, rfl⟩
theorem f_internal_strconv_numDigits : tb.prim fn_internal_strconv_numDigits = none ∧ tb.fns fn_internal_strconv_numDigits = some c_internal_strconv_numDigits := ⟨rfl, rfl⟩
theorem f_unicode_utf8_ValidRune : tb.prim fn_unicode_utf8_ValidRune = none ∧ tb.fns fn_unicode_utf8_ValidRune = some c_unicode_utf8_ValidRune := ⟨rfl, rfl⟩
theorem f_internal_bytealg_Cutover : tb.prim fn_internal_bytealg_Cutover = none ∧ tb.fns fn_internal_bytealg_Cutover = some c_internal_bytealg_Cutover := ⟨rfl, rfl⟩
theorem f_internal_strconv_log10Pow2 : tb.prim fn_internal_strconv_log10Pow2 = none ∧ tb.fns fn_internal_strconv_log10Pow2 = some c_internal_strconv_log10Pow2 := ⟨rfl, rfl⟩
theorem f_math_bits_Len64 : tb.prim fn_math_bits_Len64 = none ∧ tb.fns fn_math_bits_Len64 = some c_math_bits_Len64 := ⟨rfl, rfl⟩
theorem f_internal_strconv_bool2_int : tb.prim fn_internal_strconv_bool2_int = none ∧ tb.fns fn_internal_strconv_bool2_int = some c_internal_strconv_bool2_int := ⟨rfl, rfl⟩
end Go.Proofs.YtobejhpigbllpaaGreatDoor.Am
