/-
  The functions: their numbers, their codes. Printed by mkwalk.py.
-/
import Derived.Test.YtopgecohakediaaDoorTy
import Derived.Test.YtopgecohakediaaDoorAmV
set_option linter.unusedVariables false
set_option maxRecDepth 100000
namespace Go.Proofs.YtopgecohakediaaDoor.Am

def fn_l06_LinesSplit : Nat := 3
def fn_l06_LinesJoin : Nat := 4
def fn_l36_PairlineBlocks : Nat := 5
def fn_l36_PairlineReads : Nat := 6
def fn_l36_PairlineMany : Nat := 7
def fn_l06_alive : Nat := 9
def fn_r06_Loose : Nat := 10
def fn_lines_Split : Nat := 11
def fn_r06_Same : Nat := 12
def fn_lines_Loose : Nat := 13
def fn_lines_Join : Nat := 14
def fn_r06_Large : Nat := 15
def fn_r06_Join : Nat := 16
def fn_r06_Parts : Nat := 17
def fn_l36_alive : Nat := 18
def fn_pairline_Block : Nat := 19
def fn_r36_Block : Nat := 20
def fn_pairline_Read : Nat := 21
def fn_l36_alike : Nat := 22
def fn_r36_Read : Nat := 23
def fn_lines_Parts : Nat := 28
def fn_strings_HasSuffix : Nat := 29
def fn_strings_Split : Nat := 30
def fn_strings_TrimSuffix : Nat := 31
def fn_p_strings_Builder_WriteString : Nat := 32
def fn_p_strings_Builder_String : Nat := 33
def fn_pairline_Text : Nat := 34
def fn_r36_Text : Nat := 35
def fn_slices_Index_string : Nat := 36
def fn_pairline_Parse : Nat := 37
def fn_r36_Parse : Nat := 38
def fn_lines_Cut : Nat := 43
def fn_internal_stringslite_HasSuffix : Nat := 44
def fn_strings_genSplit : Nat := 45
def fn_internal_stringslite_TrimSuffix : Nat := 46
def fn_p_strings_Builder_copyCheck : Nat := 47
def fn_strings_ContainsAny : Nat := 48
def fn_strings_Contains : Nat := 49
def fn_r36_has : Nat := 50
def fn_strings_IndexByte : Nat := 54
def fn_strings_explode : Nat := 55
def fn_strings_Count : Nat := 56
def fn_strings_Index : Nat := 57
def fn_internal_abi_NoEscape : Nat := 58
def fn_strings_IndexAny : Nat := 59
def fn_internal_stringslite_IndexByte : Nat := 76
def fn_unicode_utf8_RuneCountInString : Nat := 77
def fn_unicode_utf8_DecodeRuneInString : Nat := 78
def fn_internal_bytealg_CountString : Nat := 79
def fn_internal_stringslite_Index : Nat := 80
def fn_strings_IndexRune : Nat := 81
def fn_strings_shouldUseASCIISet : Nat := 82
def fn_strings_makeASCIISet : Nat := 83
def fn_p_strings_asciiSet_contains : Nat := 84
def fn_internal_bytealg_IndexByteString : Nat := 94
def fn_unicode_utf8_decodeRuneInStringSlow : Nat := 95
def fn_internal_bytealg_IndexString : Nat := 96
def fn_internal_bytealg_Cutover : Nat := 97
def fn_internal_bytealg_IndexRabinKarp_string : Nat := 98
def fn_unicode_utf8_ValidRune : Nat := 99
def fn_internal_bytealg_hashStr_string : Nat := 108
noncomputable def c_l06_LinesSplit : AFn := ⟨false, 1, 58, [.tmp 2],
  (.seq (rg false [⟨some 2, none, .mv (.k (.b false))⟩])
  (.seq (.seq (rg false [⟨some 6, none, .mv (.t 0)⟩, ⟨some 7, none, .lens (.t 6)⟩, ⟨some 8, none, .bin .gtr (.t 7) (.k (.i .i64 300))⟩])
  (.cond (.t 8)
   (.seq (rg false [⟨some 9, none, .call fn_l06_alive []⟩, ⟨some 2, none, .mv (.t 9)⟩])
   .ret)
   .skip))
  (.seq (rg false [⟨some 10, none, .mv (.t 0)⟩, ⟨some 11, none, .call fn_r06_Loose [(.t 10)]⟩, ⟨some 3, none, .mv (.t 11)⟩])
  (.seq (rg false [⟨some 13, none, .mv (.t 0)⟩, ⟨some 14, none, .call fn_lines_Split [(.t 13)]⟩, ⟨some 12, none, .mv (.t 14)⟩, ⟨some 15, none, .ext (.t 12) 0⟩, ⟨some 16, none, .ext (.t 12) 1⟩, ⟨some 4, none, .mv (.t 15)⟩, ⟨some 5, none, .mv (.t 16)⟩])
  (.seq (.seq (rg false [⟨some 17, none, .mv (.t 0)⟩, ⟨some 18, none, .call fn_lines_Loose [(.t 17)]⟩, ⟨some 19, none, .mv (.t 3)⟩, ⟨some 20, none, .call fn_r06_Same [(.t 18), (.t 19)]⟩, ⟨some 21, none, .un .not (.t 20)⟩])
  (.cond (.t 21)
   (.seq (rg false [⟨some 2, none, .mv (.k (.b false))⟩])
   .ret)
   .skip))
  (.seq (.seq (rg false [⟨some 22, none, .mv (.t 0)⟩, ⟨some 23, none, .lens (.t 22)⟩, ⟨some 24, none, .bin .gtr (.t 23) (.k (.i .i64 0))⟩, ⟨some 25, none, .mv (.t 24)⟩, ⟨some 26, some (25, true), .mv (.t 0)⟩, ⟨some 27, some (25, true), .mv (.t 0)⟩, ⟨some 28, some (25, true), .lens (.t 27)⟩, ⟨some 29, some (25, true), .bin .sub (.t 28) (.k (.i .i64 1))⟩, ⟨some 30, some (25, true), .ixs (.t 26) (.t 29)⟩, ⟨some 31, some (25, true), .bin .neq (.t 30) (.k (.i .u8 10))⟩, ⟨some 32, none, .pick (.t 25) (.t 31) (.k (.b false))⟩])
  (.cond (.t 32)
   (.seq (rg false [⟨some 33, none, .mv (.t 4)⟩, ⟨some 34, none, .len (.t 33)⟩, ⟨some 35, none, .bin .eql (.t 34) (.k (.i .i64 0))⟩, ⟨some 36, none, .mv (.t 35)⟩, ⟨some 37, some (36, true), .mv (.t 5)⟩, ⟨some 38, some (36, true), .un .not (.t 37)⟩, ⟨some 39, none, .pick (.t 36) (.t 38) (.k (.b false))⟩, ⟨some 40, none, .mv (.t 39)⟩, ⟨some 41, some (40, true), .call fn_l06_alive []⟩, ⟨some 42, none, .pick (.t 40) (.t 41) (.k (.b false))⟩, ⟨some 2, none, .mv (.t 42)⟩])
   .ret)
   .skip))
  (.seq (rg false [⟨some 43, none, .mv (.t 5)⟩, ⟨some 44, none, .mv (.t 43)⟩, ⟨some 45, some (44, true), .mv (.t 4)⟩, ⟨some 46, some (44, true), .mv (.t 3)⟩, ⟨some 47, some (44, true), .call fn_r06_Same [(.t 45), (.t 46)]⟩, ⟨some 48, none, .pick (.t 44) (.t 47) (.k (.b false))⟩, ⟨some 49, none, .mv (.t 48)⟩, ⟨some 50, some (49, true), .mv (.t 4)⟩, ⟨some 51, some (49, true), .call fn_lines_Join [(.t 50)]⟩, ⟨some 52, some (49, true), .mv (.t 0)⟩, ⟨some 53, some (49, true), .bin .eql (.t 51) (.t 52)⟩, ⟨some 54, none, .pick (.t 49) (.t 53) (.k (.b false))⟩, ⟨some 55, none, .mv (.t 54)⟩, ⟨some 56, some (55, true), .call fn_l06_alive []⟩, ⟨some 57, none, .pick (.t 55) (.t 56) (.k (.b false))⟩, ⟨some 2, none, .mv (.t 57)⟩])
  .ret)))))))⟩
noncomputable def c_l06_LinesJoin_l0 : AC :=
  (.seq (.seq (rg false [⟨some 16, none, .mv (.t 4)⟩, ⟨some 17, none, .mv (.t 0)⟩, ⟨some 18, none, .len (.t 17)⟩, ⟨some 19, none, .bin .lss (.t 16) (.t 18)⟩])
  (.cond (.t 19)
   .skip
   (.exit 0)))
  (.seq (.blk 1
   (.seq (rg false [⟨some 22, none, .mv (.t 0)⟩, ⟨some 23, none, .mv (.t 4)⟩, ⟨some 24, none, .ias 1 (.t 22) (.t 23)⟩, ⟨some 25, none, .ld false 1 (.t 24)⟩, ⟨some 26, none, .call fn_r06_Parts [(.t 25), (.k (.i .u8 10))]⟩, ⟨some 27, none, .len (.t 26)⟩, ⟨some 28, none, .bin .gtr (.t 27) (.k (.i .i64 1))⟩])
   (.cond (.t 28)
    (.seq (rg false [⟨some 29, none, .call fn_l06_alive []⟩, ⟨some 2, none, .mv (.t 29)⟩])
    .ret)
    .skip)))
  (rg false [⟨some 20, none, .mv (.t 4)⟩, ⟨some 21, none, .bin .add (.t 20) (.k (.i .i64 1))⟩, ⟨some 4, none, .mv (.t 21)⟩])))
noncomputable def c_l06_LinesJoin : AFn := ⟨false, 1, 44, [.tmp 2],
  (.seq (rg false [⟨some 2, none, .mv (.k (.b false))⟩])
  (.seq (.seq (rg false [⟨some 7, none, .mv (.t 0)⟩, ⟨some 8, none, .call fn_r06_Large [(.t 7), (.k (.i .i64 20)), (.k (.i .i64 60))]⟩])
  (.cond (.t 8)
   (.seq (rg false [⟨some 9, none, .call fn_l06_alive []⟩, ⟨some 2, none, .mv (.t 9)⟩])
   .ret)
   .skip))
  (.seq (rg false [⟨some 10, none, .mv (.t 0)⟩, ⟨some 11, none, .call fn_lines_Join [(.t 10)]⟩, ⟨some 3, none, .mv (.t 11)⟩])
  (.seq (.seq (rg false [⟨some 12, none, .mv (.t 3)⟩, ⟨some 13, none, .mv (.t 0)⟩, ⟨some 14, none, .call fn_r06_Join [(.t 13)]⟩, ⟨some 15, none, .bin .neq (.t 12) (.t 14)⟩])
  (.cond (.t 15)
   (.seq (rg false [⟨some 2, none, .mv (.k (.b false))⟩])
   .ret)
   .skip))
  (.seq (.seq (rg false [⟨some 4, none, .mv (.k (.i .i64 0))⟩])
  (.blk 0
   (.loop [0, 3, 4] c_l06_LinesJoin_l0)))
  (.seq (rg false [⟨some 31, none, .mv (.t 3)⟩, ⟨some 32, none, .call fn_lines_Split [(.t 31)]⟩, ⟨some 30, none, .mv (.t 32)⟩, ⟨some 33, none, .ext (.t 30) 0⟩, ⟨some 34, none, .ext (.t 30) 1⟩, ⟨some 5, none, .mv (.t 33)⟩, ⟨some 6, none, .mv (.t 34)⟩])
  (.seq (rg false [⟨some 35, none, .mv (.t 6)⟩, ⟨some 36, none, .mv (.t 35)⟩, ⟨some 37, some (36, true), .mv (.t 5)⟩, ⟨some 38, some (36, true), .mv (.t 0)⟩, ⟨some 39, some (36, true), .call fn_r06_Same [(.t 37), (.t 38)]⟩, ⟨some 40, none, .pick (.t 36) (.t 39) (.k (.b false))⟩, ⟨some 41, none, .mv (.t 40)⟩, ⟨some 42, some (41, true), .call fn_l06_alive []⟩, ⟨some 43, none, .pick (.t 41) (.t 42) (.k (.b false))⟩, ⟨some 2, none, .mv (.t 43)⟩])
  .ret)))))))⟩
noncomputable def c_l36_PairlineBlocks_l0 : AC :=
  (.seq (rg false [⟨some 19, none, .bin .lss (.t 18) (.t 17)⟩])
  (.seq (.cond (.t 19)
   .skip
   (.exit 0))
  (.seq (.blk 1
   (.seq (rg false [⟨some 20, none, .ias 2 (.t 16) (.t 18)⟩, ⟨some 21, none, .ld true 2 (.t 20)⟩, ⟨some 5, none, .alloc 37 T_pairline_Pair.zc⟩, ⟨none, none, .st 2 (.t 5) (.t 21)⟩])
   (.seq (.seq (rg false [⟨some 22, none, .fa 0 (.t 5)⟩, ⟨some 23, none, .ld false 1 (.t 22)⟩, ⟨some 24, none, .lens (.t 23)⟩, ⟨some 25, none, .bin .gtr (.t 24) (.k (.i .i64 600))⟩, ⟨some 26, none, .mv (.t 25)⟩, ⟨some 27, some (26, false), .fa 1 (.t 5)⟩, ⟨some 28, some (26, false), .ld false 1 (.t 27)⟩, ⟨some 29, some (26, false), .lens (.t 28)⟩, ⟨some 30, some (26, false), .bin .gtr (.t 29) (.k (.i .i64 600))⟩, ⟨some 31, none, .pick (.t 26) (.k (.b true)) (.t 30)⟩])
   (.cond (.t 31)
    (.seq (rg false [⟨some 32, none, .call fn_l36_alive []⟩, ⟨some 2, none, .mv (.t 32)⟩])
    .ret)
    .skip))
   (rg false [⟨some 33, none, .mv (.t 3)⟩, ⟨some 34, none, .fa 0 (.t 5)⟩, ⟨some 35, none, .ld false 1 (.t 34)⟩, ⟨some 36, none, .fa 1 (.t 5)⟩, ⟨some 37, none, .ld false 1 (.t 36)⟩, ⟨some 38, none, .bld T_r36_Pair.zc [(0, 1, (.t 35)), (1, 1, (.t 37))]⟩, ⟨some 39, none, .bll 2 (List.replicate 1 T_r36_Pair.zc) [(0, (.t 38))]⟩, ⟨some 40, none, .app 38 2 32 (.t 33) (.t 39)⟩, ⟨some 3, none, .mv (.t 40)⟩]))))
  (rg false [⟨some 41, none, .bin .add (.t 18) (.k (.i .i64 1))⟩, ⟨some 18, none, .mv (.t 41)⟩]))))
noncomputable def c_l36_PairlineBlocks : AFn := ⟨false, 1, 78, [.tmp 2],
  (.seq (rg false [⟨some 2, none, .mv (.k (.b false))⟩])
  (.seq (.seq (rg false [⟨some 12, none, .mv (.t 0)⟩, ⟨some 13, none, .len (.t 12)⟩, ⟨some 14, none, .bin .gtr (.t 13) (.k (.i .i64 30))⟩])
  (.cond (.t 14)
   (.seq (rg false [⟨some 15, none, .call fn_l36_alive []⟩, ⟨some 2, none, .mv (.t 15)⟩])
   .ret)
   .skip))
  (.seq (rg false [⟨some 3, none, .mv (.k (.nils))⟩])
  (.seq (.seq (rg false [⟨some 16, none, .mv (.t 0)⟩, ⟨some 17, none, .len (.t 16)⟩, ⟨some 18, none, .mv (.k (.i .i64 0))⟩])
  (.blk 0
   (.loop [0, 3, 16, 17, 18] c_l36_PairlineBlocks_l0)))
  (.seq (rg false [⟨some 43, none, .mv (.t 0)⟩, ⟨some 44, none, .call fn_pairline_Block [(.t 43)]⟩, ⟨some 42, none, .mv (.t 44)⟩, ⟨some 45, none, .ext (.t 42) 0⟩, ⟨some 46, none, .ext (.t 42) 1⟩, ⟨some 6, none, .mv (.t 45)⟩, ⟨some 7, none, .mv (.t 46)⟩])
  (.seq (rg false [⟨some 48, none, .mv (.t 3)⟩, ⟨some 49, none, .call fn_r36_Block [(.t 48)]⟩, ⟨some 47, none, .mv (.t 49)⟩, ⟨some 50, none, .ext (.t 47) 0⟩, ⟨some 51, none, .ext (.t 47) 1⟩, ⟨some 8, none, .mv (.t 50)⟩, ⟨some 9, none, .mv (.t 51)⟩])
  (.seq (.seq (rg false [⟨some 52, none, .mv (.t 6)⟩, ⟨some 53, none, .mv (.t 8)⟩, ⟨some 54, none, .bin .neq (.t 52) (.t 53)⟩, ⟨some 55, none, .mv (.t 54)⟩, ⟨some 56, some (55, false), .mv (.t 7)⟩, ⟨some 57, some (55, false), .mv (.t 9)⟩, ⟨some 58, some (55, false), .bin .neq (.t 56) (.t 57)⟩, ⟨some 59, none, .pick (.t 55) (.k (.b true)) (.t 58)⟩])
  (.cond (.t 59)
   (.seq (rg false [⟨some 2, none, .mv (.k (.b false))⟩])
   .ret)
   .skip))
  (.seq (.seq (rg false [⟨some 60, none, .mv (.t 9)⟩, ⟨some 61, none, .bin .neq (.t 60) (.k (.i .i64 0))⟩])
  (.cond (.t 61)
   (.seq (rg false [⟨some 62, none, .call fn_l36_alive []⟩, ⟨some 2, none, .mv (.t 62)⟩])
   .ret)
   .skip))
  (.seq (rg false [⟨some 64, none, .mv (.t 6)⟩, ⟨some 65, none, .call fn_pairline_Read [(.t 64)]⟩, ⟨some 63, none, .mv (.t 65)⟩, ⟨some 66, none, .ext (.t 63) 0⟩, ⟨some 67, none, .ext (.t 63) 1⟩, ⟨some 10, none, .mv (.t 66)⟩, ⟨some 11, none, .mv (.t 67)⟩])
  (.seq (rg false [⟨some 68, none, .mv (.t 10)⟩, ⟨some 69, none, .mv (.t 3)⟩, ⟨some 70, none, .call fn_l36_alike [(.t 68), (.t 69)]⟩, ⟨some 71, none, .mv (.t 70)⟩, ⟨some 72, some (71, true), .mv (.t 11)⟩, ⟨some 73, some (71, true), .bin .eql (.t 72) (.k (.i .i64 0))⟩, ⟨some 74, none, .pick (.t 71) (.t 73) (.k (.b false))⟩, ⟨some 75, none, .mv (.t 74)⟩, ⟨some 76, some (75, true), .call fn_l36_alive []⟩, ⟨some 77, none, .pick (.t 75) (.t 76) (.k (.b false))⟩, ⟨some 2, none, .mv (.t 77)⟩])
  .ret))))))))))⟩
noncomputable def c_l36_PairlineReads : AFn := ⟨false, 1, 51, [.tmp 2],
  (.seq (rg false [⟨some 2, none, .mv (.k (.b false))⟩])
  (.seq (.seq (rg false [⟨some 9, none, .mv (.t 0)⟩, ⟨some 10, none, .lens (.t 9)⟩, ⟨some 11, none, .bin .gtr (.t 10) (.k (.i .i64 2000))⟩])
  (.cond (.t 11)
   (.seq (rg false [⟨some 12, none, .call fn_l36_alive []⟩, ⟨some 2, none, .mv (.t 12)⟩])
   .ret)
   .skip))
  (.seq (rg false [⟨some 14, none, .mv (.t 0)⟩, ⟨some 15, none, .call fn_pairline_Read [(.t 14)]⟩, ⟨some 13, none, .mv (.t 15)⟩, ⟨some 16, none, .ext (.t 13) 0⟩, ⟨some 17, none, .ext (.t 13) 1⟩, ⟨some 3, none, .mv (.t 16)⟩, ⟨some 4, none, .mv (.t 17)⟩])
  (.seq (rg false [⟨some 19, none, .mv (.t 0)⟩, ⟨some 20, none, .call fn_r36_Read [(.t 19)]⟩, ⟨some 18, none, .mv (.t 20)⟩, ⟨some 21, none, .ext (.t 18) 0⟩, ⟨some 22, none, .ext (.t 18) 1⟩, ⟨some 5, none, .mv (.t 21)⟩, ⟨some 6, none, .mv (.t 22)⟩])
  (.seq (.seq (rg false [⟨some 23, none, .mv (.t 3)⟩, ⟨some 24, none, .mv (.t 5)⟩, ⟨some 25, none, .call fn_l36_alike [(.t 23), (.t 24)]⟩, ⟨some 26, none, .un .not (.t 25)⟩, ⟨some 27, none, .mv (.t 26)⟩, ⟨some 28, some (27, false), .mv (.t 4)⟩, ⟨some 29, some (27, false), .mv (.t 6)⟩, ⟨some 30, some (27, false), .bin .neq (.t 28) (.t 29)⟩, ⟨some 31, none, .pick (.t 27) (.k (.b true)) (.t 30)⟩])
  (.cond (.t 31)
   (.seq (rg false [⟨some 2, none, .mv (.k (.b false))⟩])
   .ret)
   .skip))
  (.seq (rg false [⟨some 33, none, .mv (.t 3)⟩, ⟨some 34, none, .call fn_pairline_Block [(.t 33)]⟩, ⟨some 32, none, .mv (.t 34)⟩, ⟨some 35, none, .ext (.t 32) 0⟩, ⟨some 36, none, .ext (.t 32) 1⟩, ⟨some 7, none, .mv (.t 35)⟩, ⟨some 8, none, .mv (.t 36)⟩])
  (.seq (rg false [⟨some 37, none, .mv (.t 6)⟩, ⟨some 38, none, .bin .neq (.t 37) (.k (.i .i64 0))⟩, ⟨some 39, none, .mv (.t 38)⟩, ⟨some 40, some (39, false), .mv (.t 7)⟩, ⟨some 41, some (39, false), .mv (.t 0)⟩, ⟨some 42, some (39, false), .bin .eql (.t 40) (.t 41)⟩, ⟨some 43, some (39, false), .mv (.t 42)⟩, ⟨some 44, some (43, true), .mv (.t 8)⟩, ⟨some 45, some (43, true), .bin .eql (.t 44) (.k (.i .i64 0))⟩, ⟨some 46, some (39, false), .pick (.t 43) (.t 45) (.k (.b false))⟩, ⟨some 47, none, .pick (.t 39) (.k (.b true)) (.t 46)⟩, ⟨some 48, none, .mv (.t 47)⟩, ⟨some 49, some (48, true), .call fn_l36_alive []⟩, ⟨some 50, none, .pick (.t 48) (.t 49) (.k (.b false))⟩, ⟨some 2, none, .mv (.t 50)⟩])
  .ret)))))))⟩
noncomputable def c_l36_PairlineMany_l0 : AC :=
  (.seq (.seq (rg false [⟨some 17, none, .mv (.t 5)⟩, ⟨some 18, none, .mv (.t 0)⟩, ⟨some 19, none, .bin .lss (.t 17) (.t 18)⟩])
  (.cond (.t 19)
   .skip
   (.exit 0)))
  (.seq (.blk 1
   (.seq (rg false [⟨some 22, none, .mv (.t 3)⟩, ⟨some 23, none, .bin .add (.t 22) (.k (.s [107, 61, 10]))⟩, ⟨some 3, none, .mv (.t 23)⟩])
   (rg false [⟨some 24, none, .mv (.t 4)⟩, ⟨some 25, none, .bld T_pairline_Pair.zc [(0, 1, (.k (.s [107])))]⟩, ⟨some 26, none, .bll 2 (List.replicate 1 T_pairline_Pair.zc) [(0, (.t 25))]⟩, ⟨some 27, none, .app 37 2 32 (.t 24) (.t 26)⟩, ⟨some 4, none, .mv (.t 27)⟩])))
  (rg false [⟨some 20, none, .mv (.t 5)⟩, ⟨some 21, none, .bin .add (.t 20) (.k (.i .i64 1))⟩, ⟨some 5, none, .mv (.t 21)⟩])))
noncomputable def c_l36_PairlineMany : AFn := ⟨false, 1, 80, [.tmp 2],
  (.seq (rg false [⟨some 2, none, .mv (.k (.b false))⟩])
  (.seq (.seq (rg false [⟨some 10, none, .mv (.t 0)⟩, ⟨some 11, none, .bin .lss (.t 10) (.k (.i .i64 0))⟩, ⟨some 12, none, .mv (.t 11)⟩, ⟨some 13, some (12, false), .mv (.t 0)⟩, ⟨some 14, some (12, false), .bin .gtr (.t 13) (.k (.i .i64 410))⟩, ⟨some 15, none, .pick (.t 12) (.k (.b true)) (.t 14)⟩])
  (.cond (.t 15)
   (.seq (rg false [⟨some 16, none, .call fn_l36_alive []⟩, ⟨some 2, none, .mv (.t 16)⟩])
   .ret)
   .skip))
  (.seq (rg false [⟨some 3, none, .mv (.k (.s []))⟩])
  (.seq (rg false [⟨some 4, none, .mv (.k (.nils))⟩])
  (.seq (.seq (rg false [⟨some 5, none, .mv (.k (.i .i64 0))⟩])
  (.blk 0
   (.loop [0, 3, 4, 5] c_l36_PairlineMany_l0)))
  (.seq (rg false [⟨some 29, none, .mv (.t 4)⟩, ⟨some 30, none, .call fn_pairline_Block [(.t 29)]⟩, ⟨some 28, none, .mv (.t 30)⟩, ⟨some 31, none, .ext (.t 28) 0⟩, ⟨some 32, none, .ext (.t 28) 1⟩, ⟨some 6, none, .mv (.t 31)⟩, ⟨some 7, none, .mv (.t 32)⟩])
  (.seq (rg false [⟨some 34, none, .mv (.t 3)⟩, ⟨some 35, none, .bin .add (.t 34) (.k (.s [10]))⟩, ⟨some 36, none, .call fn_pairline_Read [(.t 35)]⟩, ⟨some 33, none, .mv (.t 36)⟩, ⟨some 37, none, .ext (.t 33) 0⟩, ⟨some 38, none, .ext (.t 33) 1⟩, ⟨some 8, none, .mv (.t 37)⟩, ⟨some 9, none, .mv (.t 38)⟩])
  (.seq (.seq (rg false [⟨some 39, none, .mv (.t 0)⟩, ⟨some 40, none, .bin .gtr (.t 39) (.k (.i .i64 400))⟩])
  (.cond (.t 40)
   (.seq (rg false [⟨some 41, none, .mv (.t 6)⟩, ⟨some 42, none, .bin .eql (.t 41) (.k (.s []))⟩, ⟨some 43, none, .mv (.t 42)⟩, ⟨some 44, some (43, true), .mv (.t 7)⟩, ⟨some 45, some (43, true), .bin .eql (.t 44) (.k (.i .i64 4))⟩, ⟨some 46, none, .pick (.t 43) (.t 45) (.k (.b false))⟩, ⟨some 47, none, .mv (.t 46)⟩, ⟨some 48, some (47, true), .mv (.t 8)⟩, ⟨some 49, some (47, true), .len (.t 48)⟩, ⟨some 50, some (47, true), .bin .eql (.t 49) (.k (.i .i64 0))⟩, ⟨some 51, none, .pick (.t 47) (.t 50) (.k (.b false))⟩, ⟨some 52, none, .mv (.t 51)⟩, ⟨some 53, some (52, true), .mv (.t 9)⟩, ⟨some 54, some (52, true), .bin .eql (.t 53) (.k (.i .i64 4))⟩, ⟨some 55, none, .pick (.t 52) (.t 54) (.k (.b false))⟩, ⟨some 56, none, .mv (.t 55)⟩, ⟨some 57, some (56, true), .call fn_l36_alive []⟩, ⟨some 58, none, .pick (.t 56) (.t 57) (.k (.b false))⟩, ⟨some 2, none, .mv (.t 58)⟩])
   .ret)
   .skip))
  (.seq (rg false [⟨some 59, none, .mv (.t 6)⟩, ⟨some 60, none, .mv (.t 3)⟩, ⟨some 61, none, .bin .add (.t 60) (.k (.s [10]))⟩, ⟨some 62, none, .bin .eql (.t 59) (.t 61)⟩, ⟨some 63, none, .mv (.t 62)⟩, ⟨some 64, some (63, true), .mv (.t 7)⟩, ⟨some 65, some (63, true), .bin .eql (.t 64) (.k (.i .i64 0))⟩, ⟨some 66, none, .pick (.t 63) (.t 65) (.k (.b false))⟩, ⟨some 67, none, .mv (.t 66)⟩, ⟨some 68, some (67, true), .mv (.t 8)⟩, ⟨some 69, some (67, true), .len (.t 68)⟩, ⟨some 70, some (67, true), .mv (.t 0)⟩, ⟨some 71, some (67, true), .bin .eql (.t 69) (.t 70)⟩, ⟨some 72, none, .pick (.t 67) (.t 71) (.k (.b false))⟩, ⟨some 73, none, .mv (.t 72)⟩, ⟨some 74, some (73, true), .mv (.t 9)⟩, ⟨some 75, some (73, true), .bin .eql (.t 74) (.k (.i .i64 0))⟩, ⟨some 76, none, .pick (.t 73) (.t 75) (.k (.b false))⟩, ⟨some 77, none, .mv (.t 76)⟩, ⟨some 78, some (77, true), .call fn_l36_alive []⟩, ⟨some 79, none, .pick (.t 77) (.t 78) (.k (.b false))⟩, ⟨some 2, none, .mv (.t 79)⟩])
  .ret)))))))))⟩
noncomputable def c_l06_alive : AFn := ⟨false, 0, 23, [.tmp 0],
  (.seq (rg false [⟨some 0, none, .mv (.k (.b false))⟩])
  (.seq (rg false [⟨some 4, none, .call fn_lines_Split [(.k (.s [97, 10, 10]))]⟩, ⟨some 3, none, .mv (.t 4)⟩, ⟨some 5, none, .ext (.t 3) 0⟩, ⟨some 6, none, .ext (.t 3) 1⟩, ⟨some 1, none, .mv (.t 5)⟩, ⟨some 2, none, .mv (.t 6)⟩])
  (.seq (rg false [⟨some 7, none, .mv (.t 2)⟩, ⟨some 8, none, .mv (.t 7)⟩, ⟨some 9, some (8, true), .mv (.t 1)⟩, ⟨some 10, some (8, true), .bll 1 (List.replicate 2 T.str.zc) [(0, (.k (.s [97]))), (1, (.k (.s [])))]⟩, ⟨some 11, some (8, true), .call fn_r06_Same [(.t 9), (.t 10)]⟩, ⟨some 12, none, .pick (.t 8) (.t 11) (.k (.b false))⟩, ⟨some 13, none, .mv (.t 12)⟩, ⟨some 14, some (13, true), .call fn_lines_Loose [(.k (.s [97, 10, 98]))]⟩, ⟨some 15, some (13, true), .bll 1 (List.replicate 2 T.str.zc) [(0, (.k (.s [97]))), (1, (.k (.s [98])))]⟩, ⟨some 16, some (13, true), .call fn_r06_Same [(.t 14), (.t 15)]⟩, ⟨some 17, none, .pick (.t 13) (.t 16) (.k (.b false))⟩, ⟨some 18, none, .mv (.t 17)⟩, ⟨some 19, some (18, true), .call fn_lines_Parts [(.k (.s [97, 44, 44, 98])), (.k (.i .u8 44))]⟩, ⟨some 20, some (18, true), .len (.t 19)⟩, ⟨some 21, some (18, true), .bin .eql (.t 20) (.k (.i .i64 3))⟩, ⟨some 22, none, .pick (.t 18) (.t 21) (.k (.b false))⟩, ⟨some 0, none, .mv (.t 22)⟩])
  .ret)))⟩
noncomputable def c_r06_Loose : AFn := ⟨false, 1, 19, [.tmp 2],
  (.seq (rg false [⟨some 2, none, .mv (.k (.nils))⟩])
  (.seq (rg false [⟨some 4, none, .mv (.t 0)⟩, ⟨some 5, none, .call fn_r06_Parts [(.t 4), (.k (.i .u8 10))]⟩, ⟨some 3, none, .mv (.t 5)⟩])
  (.seq (.seq (rg false [⟨some 6, none, .mv (.t 3)⟩, ⟨some 7, none, .mv (.t 3)⟩, ⟨some 8, none, .len (.t 7)⟩, ⟨some 9, none, .bin .sub (.t 8) (.k (.i .i64 1))⟩, ⟨some 10, none, .ias 1 (.t 6) (.t 9)⟩, ⟨some 11, none, .ld false 1 (.t 10)⟩, ⟨some 12, none, .bin .eql (.t 11) (.k (.s []))⟩])
  (.cond (.t 12)
   (.seq (rg false [⟨some 13, none, .mv (.t 3)⟩, ⟨some 14, none, .mv (.t 3)⟩, ⟨some 15, none, .len (.t 14)⟩, ⟨some 16, none, .bin .sub (.t 15) (.k (.i .i64 1))⟩, ⟨some 17, none, .sll 1 (.t 13) none (some (.t 16))⟩, ⟨some 2, none, .mv (.t 17)⟩])
   .ret)
   .skip))
  (.seq (rg false [⟨some 18, none, .mv (.t 3)⟩, ⟨some 2, none, .mv (.t 18)⟩])
  .ret))))⟩
noncomputable def c_lines_Split : AFn := ⟨false, 1, 13, [.tmp 2, .tmp 3],
  (.seq (rg false [⟨some 2, none, .mv (.k (.nils))⟩, ⟨some 3, none, .mv (.k (.b false))⟩])
  (.seq (.seq (rg false [⟨some 4, none, .mv (.t 0)⟩, ⟨some 5, none, .bin .neq (.t 4) (.k (.s []))⟩, ⟨some 6, none, .mv (.t 5)⟩, ⟨some 7, some (6, true), .mv (.t 0)⟩, ⟨some 8, some (6, true), .call fn_strings_HasSuffix [(.t 7), (.k (.s [10]))]⟩, ⟨some 9, some (6, true), .un .not (.t 8)⟩, ⟨some 10, none, .pick (.t 6) (.t 9) (.k (.b false))⟩])
  (.cond (.t 10)
   (.seq (rg false [⟨some 2, none, .mv (.k (.nils))⟩, ⟨some 3, none, .mv (.k (.b false))⟩])
   .ret)
   .skip))
  (.seq (rg false [⟨some 11, none, .mv (.t 0)⟩, ⟨some 12, none, .call fn_lines_Loose [(.t 11)]⟩, ⟨some 2, none, .mv (.t 12)⟩, ⟨some 3, none, .mv (.k (.b true))⟩])
  .ret)))⟩
noncomputable def c_r06_Same_l0 : AC :=
  (.seq (.seq (rg false [⟨some 11, none, .mv (.t 5)⟩, ⟨some 12, none, .mv (.t 0)⟩, ⟨some 13, none, .len (.t 12)⟩, ⟨some 14, none, .bin .lss (.t 11) (.t 13)⟩])
  (.cond (.t 14)
   .skip
   (.exit 0)))
  (.seq (.blk 1
   (.seq (rg true [⟨some 17, none, .mv (.t 0)⟩, ⟨some 18, none, .mv (.t 5)⟩, ⟨some 19, none, .ias 1 (.t 17) (.t 18)⟩, ⟨some 20, none, .ld false 1 (.t 19)⟩, ⟨some 21, none, .mv (.t 1)⟩, ⟨some 22, none, .mv (.t 5)⟩, ⟨some 23, none, .ias 1 (.t 21) (.t 22)⟩, ⟨some 24, none, .ld false 1 (.t 23)⟩, ⟨some 25, none, .bin .neq (.t 20) (.t 24)⟩])
   (.cond (.t 25)
    (.seq (rg false [⟨some 4, none, .mv (.k (.b false))⟩])
    .ret)
    .skip)))
  (rg false [⟨some 15, none, .mv (.t 5)⟩, ⟨some 16, none, .bin .add (.t 15) (.k (.i .i64 1))⟩, ⟨some 5, none, .mv (.t 16)⟩])))
noncomputable def c_r06_Same : AFn := ⟨false, 2, 26, [.tmp 4],
  (.seq (rg false [⟨some 4, none, .mv (.k (.b false))⟩])
  (.seq (.seq (rg false [⟨some 6, none, .mv (.t 0)⟩, ⟨some 7, none, .len (.t 6)⟩, ⟨some 8, none, .mv (.t 1)⟩, ⟨some 9, none, .len (.t 8)⟩, ⟨some 10, none, .bin .neq (.t 7) (.t 9)⟩])
  (.cond (.t 10)
   (.seq (rg false [⟨some 4, none, .mv (.k (.b false))⟩])
   .ret)
   .skip))
  (.seq (.seq (rg false [⟨some 5, none, .mv (.k (.i .i64 0))⟩])
  (.blk 0
   (.loop [0, 1, 5] c_r06_Same_l0)))
  (.seq (rg false [⟨some 4, none, .mv (.k (.b true))⟩])
  .ret))))⟩
noncomputable def c_lines_Loose : AFn := ⟨false, 1, 8, [.tmp 2],
  (.seq (rg false [⟨some 2, none, .mv (.k (.nils))⟩])
  (.seq (.seq (rg false [⟨some 3, none, .mv (.t 0)⟩, ⟨some 4, none, .bin .eql (.t 3) (.k (.s []))⟩])
  (.cond (.t 4)
   (.seq (rg false [⟨some 2, none, .mv (.k (.nils))⟩])
   .ret)
   .skip))
  (.seq (rg false [⟨some 5, none, .mv (.t 0)⟩, ⟨some 6, none, .call fn_strings_TrimSuffix [(.t 5), (.k (.s [10]))]⟩, ⟨some 7, none, .call fn_strings_Split [(.t 6), (.k (.s [10]))]⟩, ⟨some 2, none, .mv (.t 7)⟩])
  .ret)))⟩
noncomputable def c_lines_Join_l0 : AC :=
  (.seq (rg false [⟨some 9, none, .bin .lss (.t 8) (.t 7)⟩])
  (.seq (.cond (.t 9)
   .skip
   (.exit 0))
  (.seq (.blk 1
   (.seq (rg false [⟨some 10, none, .ias 1 (.t 6) (.t 8)⟩, ⟨some 11, none, .ld false 1 (.t 10)⟩, ⟨some 5, none, .mv (.t 11)⟩])
   (.seq (rg false [⟨some 12, none, .mv (.t 5)⟩, ⟨some 13, none, .call fn_p_strings_Builder_WriteString [(.t 3), (.t 12)]⟩])
   (rg false [⟨some 14, none, .call fn_p_strings_Builder_WriteString [(.t 3), (.k (.s [10]))]⟩]))))
  (rg false [⟨some 15, none, .bin .add (.t 8) (.k (.i .i64 1))⟩, ⟨some 8, none, .mv (.t 15)⟩]))))
noncomputable def c_lines_Join : AFn := ⟨false, 1, 17, [.tmp 2],
  (.seq (rg false [⟨some 2, none, .mv (.k (.s []))⟩])
  (.seq (rg false [⟨some 3, none, .alloc 65 (zz [(1, .nilp), (1, .nils)])⟩])
  (.seq (.seq (rg false [⟨some 6, none, .mv (.t 0)⟩, ⟨some 7, none, .len (.t 6)⟩, ⟨some 8, none, .mv (.k (.i .i64 0))⟩])
  (.blk 0
   (.loop [3, 6, 7, 8] c_lines_Join_l0)))
  (.seq (rg false [⟨some 16, none, .call fn_p_strings_Builder_String [(.t 3)]⟩, ⟨some 2, none, .mv (.t 16)⟩])
  .ret))))⟩
noncomputable def c_r06_Large_l0 : AC :=
  (.seq (.seq (rg false [⟨some 12, none, .mv (.t 7)⟩, ⟨some 13, none, .mv (.t 0)⟩, ⟨some 14, none, .len (.t 13)⟩, ⟨some 15, none, .bin .lss (.t 12) (.t 14)⟩])
  (.cond (.t 15)
   .skip
   (.exit 0)))
  (.seq (.blk 1
   (.seq (rg false [⟨some 18, none, .mv (.t 0)⟩, ⟨some 19, none, .mv (.t 7)⟩, ⟨some 20, none, .ias 1 (.t 18) (.t 19)⟩, ⟨some 21, none, .ld false 1 (.t 20)⟩, ⟨some 22, none, .lens (.t 21)⟩, ⟨some 23, none, .mv (.t 2)⟩, ⟨some 24, none, .bin .gtr (.t 22) (.t 23)⟩])
   (.cond (.t 24)
    (.seq (rg false [⟨some 6, none, .mv (.k (.b true))⟩])
    .ret)
    .skip)))
  (rg false [⟨some 16, none, .mv (.t 7)⟩, ⟨some 17, none, .bin .add (.t 16) (.k (.i .i64 1))⟩, ⟨some 7, none, .mv (.t 17)⟩])))
noncomputable def c_r06_Large : AFn := ⟨false, 3, 25, [.tmp 6],
  (.seq (rg false [⟨some 6, none, .mv (.k (.b false))⟩])
  (.seq (.seq (rg false [⟨some 8, none, .mv (.t 0)⟩, ⟨some 9, none, .len (.t 8)⟩, ⟨some 10, none, .mv (.t 1)⟩, ⟨some 11, none, .bin .gtr (.t 9) (.t 10)⟩])
  (.cond (.t 11)
   (.seq (rg false [⟨some 6, none, .mv (.k (.b true))⟩])
   .ret)
   .skip))
  (.seq (.seq (rg false [⟨some 7, none, .mv (.k (.i .i64 0))⟩])
  (.blk 0
   (.loop [0, 2, 7] c_r06_Large_l0)))
  (.seq (rg false [⟨some 6, none, .mv (.k (.b false))⟩])
  .ret))))⟩
noncomputable def c_r06_Join_l0 : AC :=
  (.seq (.seq (rg false [⟨some 5, none, .mv (.t 4)⟩, ⟨some 6, none, .mv (.t 0)⟩, ⟨some 7, none, .len (.t 6)⟩, ⟨some 8, none, .bin .lss (.t 5) (.t 7)⟩])
  (.cond (.t 8)
   .skip
   (.exit 0)))
  (.seq (.blk 1
   (rg false [⟨some 11, none, .mv (.t 3)⟩, ⟨some 12, none, .mv (.t 0)⟩, ⟨some 13, none, .mv (.t 4)⟩, ⟨some 14, none, .ias 1 (.t 12) (.t 13)⟩, ⟨some 15, none, .ld false 1 (.t 14)⟩, ⟨some 16, none, .bin .add (.t 11) (.t 15)⟩, ⟨some 17, none, .bin .add (.t 16) (.k (.s [10]))⟩, ⟨some 3, none, .mv (.t 17)⟩]))
  (rg false [⟨some 9, none, .mv (.t 4)⟩, ⟨some 10, none, .bin .add (.t 9) (.k (.i .i64 1))⟩, ⟨some 4, none, .mv (.t 10)⟩])))
noncomputable def c_r06_Join : AFn := ⟨false, 1, 19, [.tmp 2],
  (.seq (rg false [⟨some 2, none, .mv (.k (.s []))⟩])
  (.seq (rg false [⟨some 3, none, .mv (.k (.s []))⟩])
  (.seq (.seq (rg false [⟨some 4, none, .mv (.k (.i .i64 0))⟩])
  (.blk 0
   (.loop [0, 3, 4] c_r06_Join_l0)))
  (.seq (rg false [⟨some 18, none, .mv (.t 3)⟩, ⟨some 2, none, .mv (.t 18)⟩])
  .ret))))⟩
noncomputable def c_r06_Parts_l0 : AC :=
  (.seq (.seq (rg false [⟨some 8, none, .mv (.t 7)⟩, ⟨some 9, none, .mv (.t 0)⟩, ⟨some 10, none, .lens (.t 9)⟩, ⟨some 11, none, .bin .lss (.t 8) (.t 10)⟩])
  (.cond (.t 11)
   .skip
   (.exit 0)))
  (.seq (.blk 1
   (.seq (rg false [⟨some 14, none, .mv (.t 0)⟩, ⟨some 15, none, .mv (.t 7)⟩, ⟨some 16, none, .ixs (.t 14) (.t 15)⟩, ⟨some 17, none, .mv (.t 1)⟩, ⟨some 18, none, .bin .eql (.t 16) (.t 17)⟩])
   (.cond (.t 18)
    (.seq (rg false [⟨some 19, none, .mv (.t 6)⟩, ⟨some 20, none, .mv (.t 0)⟩, ⟨some 21, none, .mv (.t 5)⟩, ⟨some 22, none, .mv (.t 7)⟩, ⟨some 23, none, .sls (.t 20) (some (.t 21)) (some (.t 22))⟩, ⟨some 24, none, .bll 1 (List.replicate 1 T.str.zc) [(0, (.t 23))]⟩, ⟨some 25, none, .app 9 1 16 (.t 19) (.t 24)⟩, ⟨some 6, none, .mv (.t 25)⟩])
    (rg false [⟨some 26, none, .mv (.t 7)⟩, ⟨some 27, none, .bin .add (.t 26) (.k (.i .i64 1))⟩, ⟨some 5, none, .mv (.t 27)⟩]))
    .skip)))
  (rg false [⟨some 12, none, .mv (.t 7)⟩, ⟨some 13, none, .bin .add (.t 12) (.k (.i .i64 1))⟩, ⟨some 7, none, .mv (.t 13)⟩])))
noncomputable def c_r06_Parts : AFn := ⟨false, 2, 34, [.tmp 4],
  (.seq (rg false [⟨some 4, none, .mv (.k (.nils))⟩])
  (.seq (rg false [⟨some 5, none, .mv (.k (.i .i64 0))⟩])
  (.seq (rg false [⟨some 6, none, .mv (.k (.nils))⟩])
  (.seq (.seq (rg false [⟨some 7, none, .mv (.k (.i .i64 0))⟩])
  (.blk 0
   (.loop [0, 1, 5, 6, 7] c_r06_Parts_l0)))
  (.seq (rg false [⟨some 28, none, .mv (.t 6)⟩, ⟨some 29, none, .mv (.t 0)⟩, ⟨some 30, none, .mv (.t 5)⟩, ⟨some 31, none, .sls (.t 29) (some (.t 30)) none⟩, ⟨some 32, none, .bll 1 (List.replicate 1 T.str.zc) [(0, (.t 31))]⟩, ⟨some 33, none, .app 9 1 16 (.t 28) (.t 32)⟩, ⟨some 4, none, .mv (.t 33)⟩])
  .ret)))))⟩
noncomputable def c_l36_alive : AFn := ⟨false, 0, 38, [.tmp 0],
  (.seq (rg false [⟨some 0, none, .mv (.k (.b false))⟩])
  (.seq (rg false [⟨some 6, none, .call fn_pairline_Read [(.k (.s [97, 61, 98, 10, 10]))]⟩, ⟨some 5, none, .mv (.t 6)⟩, ⟨some 7, none, .ext (.t 5) 0⟩, ⟨some 8, none, .ext (.t 5) 1⟩, ⟨some 1, none, .mv (.t 7)⟩, ⟨some 2, none, .mv (.t 8)⟩])
  (.seq (rg false [⟨some 10, none, .call fn_pairline_Read [(.k (.s []))]⟩, ⟨some 9, none, .mv (.t 10)⟩, ⟨some 11, none, .ext (.t 9) 0⟩, ⟨some 12, none, .ext (.t 9) 1⟩, ⟨some 3, none, .mv (.t 11)⟩, ⟨some 4, none, .mv (.t 12)⟩])
  (.seq (rg false [⟨some 13, none, .mv (.t 2)⟩, ⟨some 14, none, .bin .eql (.t 13) (.k (.i .i64 0))⟩, ⟨some 15, none, .mv (.t 14)⟩, ⟨some 16, some (15, true), .mv (.t 1)⟩, ⟨some 17, some (15, true), .len (.t 16)⟩, ⟨some 18, some (15, true), .bin .eql (.t 17) (.k (.i .i64 1))⟩, ⟨some 19, none, .pick (.t 15) (.t 18) (.k (.b false))⟩, ⟨some 20, none, .mv (.t 19)⟩, ⟨some 21, some (20, true), .mv (.t 1)⟩, ⟨some 22, some (20, true), .ias 2 (.t 21) (.k (.i .i64 0))⟩, ⟨some 23, some (20, true), .fa 0 (.t 22)⟩, ⟨some 24, some (20, true), .ld false 1 (.t 23)⟩, ⟨some 25, some (20, true), .bin .eql (.t 24) (.k (.s [97]))⟩, ⟨some 26, none, .pick (.t 20) (.t 25) (.k (.b false))⟩, ⟨some 27, none, .mv (.t 26)⟩, ⟨some 28, some (27, true), .mv (.t 1)⟩, ⟨some 29, some (27, true), .ias 2 (.t 28) (.k (.i .i64 0))⟩, ⟨some 30, some (27, true), .fa 1 (.t 29)⟩, ⟨some 31, some (27, true), .ld false 1 (.t 30)⟩, ⟨some 32, some (27, true), .bin .eql (.t 31) (.k (.s [98]))⟩, ⟨some 33, none, .pick (.t 27) (.t 32) (.k (.b false))⟩, ⟨some 34, none, .mv (.t 33)⟩, ⟨some 35, some (34, true), .mv (.t 4)⟩, ⟨some 36, some (34, true), .bin .eql (.t 35) (.k (.i .i64 5))⟩, ⟨some 37, none, .pick (.t 34) (.t 36) (.k (.b false))⟩, ⟨some 0, none, .mv (.t 37)⟩])
  .ret))))⟩
noncomputable def c_pairline_Block_l0 : AC :=
  (.seq (rg false [⟨some 15, none, .bin .lss (.t 14) (.t 13)⟩])
  (.seq (.cond (.t 15)
   .skip
   (.exit 0))
  (.seq (.blk 1
   (.seq (rg false [⟨some 16, none, .ias 2 (.t 12) (.t 14)⟩, ⟨some 17, none, .ld true 2 (.t 16)⟩, ⟨some 6, none, .alloc 37 T_pairline_Pair.zc⟩, ⟨none, none, .st 2 (.t 6) (.t 17)⟩])
   (.seq (rg false [⟨some 19, none, .ld true 2 (.t 6)⟩, ⟨some 20, none, .call fn_pairline_Text [(.t 19)]⟩, ⟨some 18, none, .mv (.t 20)⟩, ⟨some 21, none, .ext (.t 18) 0⟩, ⟨some 22, none, .ext (.t 18) 1⟩, ⟨some 7, none, .mv (.t 21)⟩, ⟨some 8, none, .mv (.t 22)⟩])
   (.seq (.seq (rg false [⟨some 23, none, .mv (.t 8)⟩, ⟨some 24, none, .bin .neq (.t 23) (.k (.i .i64 0))⟩])
   (.cond (.t 24)
    (.seq (rg false [⟨some 25, none, .mv (.t 8)⟩, ⟨some 2, none, .mv (.k (.s []))⟩, ⟨some 3, none, .mv (.t 25)⟩])
    .ret)
    .skip))
   (rg false [⟨some 26, none, .mv (.t 4)⟩, ⟨some 27, none, .mv (.t 7)⟩, ⟨some 28, none, .bll 1 (List.replicate 1 T.str.zc) [(0, (.t 27))]⟩, ⟨some 29, none, .app 9 1 16 (.t 26) (.t 28)⟩, ⟨some 4, none, .mv (.t 29)⟩])))))
  (rg false [⟨some 30, none, .bin .add (.t 14) (.k (.i .i64 1))⟩, ⟨some 14, none, .mv (.t 30)⟩]))))
noncomputable def c_pairline_Block : AFn := ⟨false, 1, 35, [.tmp 2, .tmp 3],
  (.seq (rg false [⟨some 2, none, .mv (.k (.s []))⟩, ⟨some 3, none, .mv (.k (.i .i64 0))⟩])
  (.seq (.seq (rg false [⟨some 9, none, .mv (.t 0)⟩, ⟨some 10, none, .len (.t 9)⟩, ⟨some 11, none, .bin .gtr (.t 10) (.k (.i .i64 400))⟩])
  (.cond (.t 11)
   (.seq (rg false [⟨some 2, none, .mv (.k (.s []))⟩, ⟨some 3, none, .mv (.k (.i .i64 4))⟩])
   .ret)
   .skip))
  (.seq (rg false [⟨some 4, none, .mv (.k (.nils))⟩])
  (.seq (.seq (rg false [⟨some 12, none, .mv (.t 0)⟩, ⟨some 13, none, .len (.t 12)⟩, ⟨some 14, none, .mv (.k (.i .i64 0))⟩])
  (.blk 0
   (.loop [4, 12, 13, 14] c_pairline_Block_l0)))
  (.seq (rg false [⟨some 31, none, .mv (.t 4)⟩, ⟨some 32, none, .bll 1 (List.replicate 1 T.str.zc) [(0, (.k (.s [])))]⟩, ⟨some 33, none, .app 9 1 16 (.t 31) (.t 32)⟩, ⟨some 34, none, .call fn_lines_Join [(.t 33)]⟩, ⟨some 2, none, .mv (.t 34)⟩, ⟨some 3, none, .mv (.k (.i .i64 0))⟩])
  .ret)))))⟩
noncomputable def c_r36_Block_l0 : AC :=
  (.seq (.seq (rg false [⟨some 11, none, .mv (.t 5)⟩, ⟨some 12, none, .mv (.t 0)⟩, ⟨some 13, none, .len (.t 12)⟩, ⟨some 14, none, .bin .lss (.t 11) (.t 13)⟩])
  (.cond (.t 14)
   .skip
   (.exit 0)))
  (.seq (.blk 1
   (.seq (rg false [⟨some 18, none, .mv (.t 0)⟩, ⟨some 19, none, .mv (.t 5)⟩, ⟨some 20, none, .ias 2 (.t 18) (.t 19)⟩, ⟨some 21, none, .ld true 2 (.t 20)⟩, ⟨some 22, none, .call fn_r36_Text [(.t 21)]⟩, ⟨some 17, none, .mv (.t 22)⟩, ⟨some 23, none, .ext (.t 17) 0⟩, ⟨some 24, none, .ext (.t 17) 1⟩, ⟨some 6, none, .mv (.t 23)⟩, ⟨some 7, none, .mv (.t 24)⟩])
   (.seq (.seq (rg false [⟨some 25, none, .mv (.t 7)⟩, ⟨some 26, none, .bin .neq (.t 25) (.k (.i .i64 0))⟩])
   (.cond (.t 26)
    (.seq (rg false [⟨some 27, none, .mv (.t 7)⟩, ⟨some 2, none, .mv (.k (.s []))⟩, ⟨some 3, none, .mv (.t 27)⟩])
    .ret)
    .skip))
   (rg false [⟨some 28, none, .mv (.t 4)⟩, ⟨some 29, none, .mv (.t 6)⟩, ⟨some 30, none, .bin .add (.t 28) (.t 29)⟩, ⟨some 31, none, .bin .add (.t 30) (.k (.s [10]))⟩, ⟨some 4, none, .mv (.t 31)⟩]))))
  (rg false [⟨some 15, none, .mv (.t 5)⟩, ⟨some 16, none, .bin .add (.t 15) (.k (.i .i64 1))⟩, ⟨some 5, none, .mv (.t 16)⟩])))
noncomputable def c_r36_Block : AFn := ⟨false, 1, 34, [.tmp 2, .tmp 3],
  (.seq (rg false [⟨some 2, none, .mv (.k (.s []))⟩, ⟨some 3, none, .mv (.k (.i .i64 0))⟩])
  (.seq (.seq (rg false [⟨some 8, none, .mv (.t 0)⟩, ⟨some 9, none, .len (.t 8)⟩, ⟨some 10, none, .bin .gtr (.t 9) (.k (.i .i64 400))⟩])
  (.cond (.t 10)
   (.seq (rg false [⟨some 2, none, .mv (.k (.s []))⟩, ⟨some 3, none, .mv (.k (.i .i64 4))⟩])
   .ret)
   .skip))
  (.seq (rg false [⟨some 4, none, .mv (.k (.s []))⟩])
  (.seq (.seq (rg false [⟨some 5, none, .mv (.k (.i .i64 0))⟩])
  (.blk 0
   (.loop [0, 4, 5] c_r36_Block_l0)))
  (.seq (rg false [⟨some 32, none, .mv (.t 4)⟩, ⟨some 33, none, .bin .add (.t 32) (.k (.s [10]))⟩, ⟨some 2, none, .mv (.t 33)⟩, ⟨some 3, none, .mv (.k (.i .i64 0))⟩])
  .ret)))))⟩
noncomputable def c_pairline_Read_l0 : AC :=
  (.seq (rg false [⟨some 42, none, .bin .lss (.t 41) (.t 40)⟩])
  (.seq (.cond (.t 42)
   .skip
   (.exit 0))
  (.seq (.blk 1
   (.seq (rg false [⟨some 43, none, .ias 1 (.t 39) (.t 41)⟩, ⟨some 44, none, .ld false 1 (.t 43)⟩, ⟨some 8, none, .mv (.t 44)⟩])
   (.seq (rg false [⟨some 46, none, .mv (.t 8)⟩, ⟨some 47, none, .call fn_pairline_Parse [(.t 46)]⟩, ⟨some 45, none, .mv (.t 47)⟩, ⟨some 48, none, .ext (.t 45) 0⟩, ⟨some 49, none, .ext (.t 45) 1⟩, ⟨some 9, none, .alloc 37 T_pairline_Pair.zc⟩, ⟨none, none, .st 2 (.t 9) (.t 48)⟩, ⟨some 10, none, .mv (.t 49)⟩])
   (.seq (.seq (rg false [⟨some 50, none, .mv (.t 10)⟩, ⟨some 51, none, .bin .neq (.t 50) (.k (.i .i64 0))⟩])
   (.cond (.t 51)
    (.seq (rg false [⟨some 52, none, .mv (.t 10)⟩, ⟨some 2, none, .mv (.k (.nils))⟩, ⟨some 3, none, .mv (.t 52)⟩])
    .ret)
    .skip))
   (rg false [⟨some 53, none, .mv (.t 6)⟩, ⟨some 54, none, .ld true 2 (.t 9)⟩, ⟨some 55, none, .bll 2 (List.replicate 1 T_pairline_Pair.zc) [(0, (.t 54))]⟩, ⟨some 56, none, .app 37 2 32 (.t 53) (.t 55)⟩, ⟨some 6, none, .mv (.t 56)⟩])))))
  (rg false [⟨some 57, none, .bin .add (.t 41) (.k (.i .i64 1))⟩, ⟨some 41, none, .mv (.t 57)⟩]))))
noncomputable def c_pairline_Read : AFn := ⟨false, 1, 59, [.tmp 2, .tmp 3],
  (.seq (rg false [⟨some 2, none, .mv (.k (.nils))⟩, ⟨some 3, none, .mv (.k (.i .i64 0))⟩])
  (.seq (rg false [⟨some 12, none, .mv (.t 0)⟩, ⟨some 13, none, .call fn_lines_Split [(.t 12)]⟩, ⟨some 11, none, .mv (.t 13)⟩, ⟨some 14, none, .ext (.t 11) 0⟩, ⟨some 15, none, .ext (.t 11) 1⟩, ⟨some 4, none, .mv (.t 14)⟩, ⟨some 5, none, .mv (.t 15)⟩])
  (.seq (.seq (rg false [⟨some 16, none, .mv (.t 5)⟩, ⟨some 17, none, .un .not (.t 16)⟩, ⟨some 18, none, .mv (.t 17)⟩, ⟨some 19, some (18, false), .mv (.t 4)⟩, ⟨some 20, some (18, false), .len (.t 19)⟩, ⟨some 21, some (18, false), .bin .eql (.t 20) (.k (.i .i64 0))⟩, ⟨some 22, none, .pick (.t 18) (.k (.b true)) (.t 21)⟩, ⟨some 23, none, .mv (.t 22)⟩, ⟨some 24, some (23, false), .mv (.t 4)⟩, ⟨some 25, some (23, false), .call fn_slices_Index_string [(.t 24), (.k (.s []))]⟩, ⟨some 26, some (23, false), .mv (.t 4)⟩, ⟨some 27, some (23, false), .len (.t 26)⟩, ⟨some 28, some (23, false), .bin .sub (.t 27) (.k (.i .i64 1))⟩, ⟨some 29, some (23, false), .bin .neq (.t 25) (.t 28)⟩, ⟨some 30, none, .pick (.t 23) (.k (.b true)) (.t 29)⟩])
  (.cond (.t 30)
   (.seq (rg false [⟨some 2, none, .mv (.k (.nils))⟩, ⟨some 3, none, .mv (.k (.i .i64 5))⟩])
   .ret)
   .skip))
  (.seq (rg false [⟨some 31, none, .mv (.t 4)⟩, ⟨some 32, none, .mv (.t 4)⟩, ⟨some 33, none, .len (.t 32)⟩, ⟨some 34, none, .bin .sub (.t 33) (.k (.i .i64 1))⟩, ⟨some 35, none, .sll 1 (.t 31) none (some (.t 34))⟩, ⟨some 4, none, .mv (.t 35)⟩])
  (.seq (.seq (rg false [⟨some 36, none, .mv (.t 4)⟩, ⟨some 37, none, .len (.t 36)⟩, ⟨some 38, none, .bin .gtr (.t 37) (.k (.i .i64 400))⟩])
  (.cond (.t 38)
   (.seq (rg false [⟨some 2, none, .mv (.k (.nils))⟩, ⟨some 3, none, .mv (.k (.i .i64 4))⟩])
   .ret)
   .skip))
  (.seq (rg false [⟨some 6, none, .mv (.k (.nils))⟩])
  (.seq (.seq (rg false [⟨some 39, none, .mv (.t 4)⟩, ⟨some 40, none, .len (.t 39)⟩, ⟨some 41, none, .mv (.k (.i .i64 0))⟩])
  (.blk 0
   (.loop [6, 39, 40, 41] c_pairline_Read_l0)))
  (.seq (rg false [⟨some 58, none, .mv (.t 6)⟩, ⟨some 2, none, .mv (.t 58)⟩, ⟨some 3, none, .mv (.k (.i .i64 0))⟩])
  .ret))))))))⟩
noncomputable def c_l36_alike_l0 : AC :=
  (.seq (.seq (rg false [⟨some 11, none, .mv (.t 5)⟩, ⟨some 12, none, .mv (.t 0)⟩, ⟨some 13, none, .len (.t 12)⟩, ⟨some 14, none, .bin .lss (.t 11) (.t 13)⟩])
  (.cond (.t 14)
   .skip
   (.exit 0)))
  (.seq (.blk 1
   (.seq (rg true [⟨some 17, none, .mv (.t 0)⟩, ⟨some 18, none, .mv (.t 5)⟩, ⟨some 19, none, .ias 2 (.t 17) (.t 18)⟩, ⟨some 20, none, .fa 0 (.t 19)⟩, ⟨some 21, none, .ld false 1 (.t 20)⟩, ⟨some 22, none, .mv (.t 1)⟩, ⟨some 23, none, .mv (.t 5)⟩, ⟨some 24, none, .ias 2 (.t 22) (.t 23)⟩, ⟨some 25, none, .fa 0 (.t 24)⟩, ⟨some 26, none, .ld false 1 (.t 25)⟩, ⟨some 27, none, .bin .neq (.t 21) (.t 26)⟩, ⟨some 28, none, .mv (.t 27)⟩, ⟨some 29, some (28, false), .mv (.t 0)⟩, ⟨some 30, some (28, false), .mv (.t 5)⟩, ⟨some 31, some (28, false), .ias 2 (.t 29) (.t 30)⟩, ⟨some 32, some (28, false), .fa 1 (.t 31)⟩, ⟨some 33, some (28, false), .ld false 1 (.t 32)⟩, ⟨some 34, some (28, false), .mv (.t 1)⟩, ⟨some 35, some (28, false), .mv (.t 5)⟩, ⟨some 36, some (28, false), .ias 2 (.t 34) (.t 35)⟩, ⟨some 37, some (28, false), .fa 1 (.t 36)⟩, ⟨some 38, some (28, false), .ld false 1 (.t 37)⟩, ⟨some 39, some (28, false), .bin .neq (.t 33) (.t 38)⟩, ⟨some 40, none, .pick (.t 28) (.k (.b true)) (.t 39)⟩])
   (.cond (.t 40)
    (.seq (rg false [⟨some 4, none, .mv (.k (.b false))⟩])
    .ret)
    .skip)))
  (rg false [⟨some 15, none, .mv (.t 5)⟩, ⟨some 16, none, .bin .add (.t 15) (.k (.i .i64 1))⟩, ⟨some 5, none, .mv (.t 16)⟩])))
noncomputable def c_l36_alike : AFn := ⟨false, 2, 41, [.tmp 4],
  (.seq (rg false [⟨some 4, none, .mv (.k (.b false))⟩])
  (.seq (.seq (rg false [⟨some 6, none, .mv (.t 0)⟩, ⟨some 7, none, .len (.t 6)⟩, ⟨some 8, none, .mv (.t 1)⟩, ⟨some 9, none, .len (.t 8)⟩, ⟨some 10, none, .bin .neq (.t 7) (.t 9)⟩])
  (.cond (.t 10)
   (.seq (rg false [⟨some 4, none, .mv (.k (.b false))⟩])
   .ret)
   .skip))
  (.seq (.seq (rg false [⟨some 5, none, .mv (.k (.i .i64 0))⟩])
  (.blk 0
   (.loop [0, 1, 5] c_l36_alike_l0)))
  (.seq (rg false [⟨some 4, none, .mv (.k (.b true))⟩])
  .ret))))⟩
noncomputable def c_r36_Read_l0 : AC :=
  (.seq (.seq (rg false [⟨some 37, none, .mv (.t 6)⟩, ⟨some 38, none, .mv (.t 4)⟩, ⟨some 39, none, .len (.t 38)⟩, ⟨some 40, none, .bin .lss (.t 37) (.t 39)⟩])
  (.cond (.t 40)
   .skip
   (.exit 0)))
  (.seq (.blk 1
   (.seq (rg false [⟨some 43, none, .mv (.t 4)⟩, ⟨some 44, none, .mv (.t 6)⟩, ⟨some 45, none, .ias 1 (.t 43) (.t 44)⟩, ⟨some 46, none, .ld false 1 (.t 45)⟩, ⟨some 47, none, .bin .eql (.t 46) (.k (.s []))⟩])
   (.cond (.t 47)
    (.seq (rg false [⟨some 2, none, .mv (.k (.nils))⟩, ⟨some 3, none, .mv (.k (.i .i64 5))⟩])
    .ret)
    .skip)))
  (rg false [⟨some 41, none, .mv (.t 6)⟩, ⟨some 42, none, .bin .add (.t 41) (.k (.i .i64 1))⟩, ⟨some 6, none, .mv (.t 42)⟩])))
noncomputable def c_r36_Read_l1 : AC :=
  (.seq (.seq (rg false [⟨some 51, none, .mv (.t 8)⟩, ⟨some 52, none, .mv (.t 4)⟩, ⟨some 53, none, .len (.t 52)⟩, ⟨some 54, none, .bin .lss (.t 51) (.t 53)⟩])
  (.cond (.t 54)
   .skip
   (.exit 2)))
  (.seq (.blk 3
   (.seq (rg false [⟨some 58, none, .mv (.t 4)⟩, ⟨some 59, none, .mv (.t 8)⟩, ⟨some 60, none, .ias 1 (.t 58) (.t 59)⟩, ⟨some 61, none, .ld false 1 (.t 60)⟩, ⟨some 62, none, .call fn_r36_Parse [(.t 61)]⟩, ⟨some 57, none, .mv (.t 62)⟩, ⟨some 63, none, .ext (.t 57) 0⟩, ⟨some 64, none, .ext (.t 57) 1⟩, ⟨some 9, none, .alloc 38 T_r36_Pair.zc⟩, ⟨none, none, .st 2 (.t 9) (.t 63)⟩, ⟨some 10, none, .mv (.t 64)⟩])
   (.seq (.seq (rg false [⟨some 65, none, .mv (.t 10)⟩, ⟨some 66, none, .bin .neq (.t 65) (.k (.i .i64 0))⟩])
   (.cond (.t 66)
    (.seq (rg false [⟨some 67, none, .mv (.t 10)⟩, ⟨some 2, none, .mv (.k (.nils))⟩, ⟨some 3, none, .mv (.t 67)⟩])
    .ret)
    .skip))
   (rg false [⟨some 68, none, .mv (.t 7)⟩, ⟨some 69, none, .ld true 2 (.t 9)⟩, ⟨some 70, none, .bll 2 (List.replicate 1 T_r36_Pair.zc) [(0, (.t 69))]⟩, ⟨some 71, none, .app 38 2 32 (.t 68) (.t 70)⟩, ⟨some 7, none, .mv (.t 71)⟩]))))
  (rg false [⟨some 55, none, .mv (.t 8)⟩, ⟨some 56, none, .bin .add (.t 55) (.k (.i .i64 1))⟩, ⟨some 8, none, .mv (.t 56)⟩])))
noncomputable def c_r36_Read : AFn := ⟨false, 1, 73, [.tmp 2, .tmp 3],
  (.seq (rg false [⟨some 2, none, .mv (.k (.nils))⟩, ⟨some 3, none, .mv (.k (.i .i64 0))⟩])
  (.seq (rg false [⟨some 11, none, .mv (.t 0)⟩, ⟨some 12, none, .call fn_r06_Parts [(.t 11), (.k (.i .u8 10))]⟩, ⟨some 4, none, .mv (.t 12)⟩])
  (.seq (rg false [⟨some 13, none, .mv (.t 4)⟩, ⟨some 14, none, .len (.t 13)⟩, ⟨some 5, none, .mv (.t 14)⟩])
  (.seq (.seq (rg false [⟨some 15, none, .mv (.t 5)⟩, ⟨some 16, none, .bin .lss (.t 15) (.k (.i .i64 2))⟩, ⟨some 17, none, .mv (.t 16)⟩, ⟨some 18, some (17, false), .mv (.t 4)⟩, ⟨some 19, some (17, false), .mv (.t 5)⟩, ⟨some 20, some (17, false), .bin .sub (.t 19) (.k (.i .i64 1))⟩, ⟨some 21, some (17, false), .ias 1 (.t 18) (.t 20)⟩, ⟨some 22, some (17, false), .ld false 1 (.t 21)⟩, ⟨some 23, some (17, false), .bin .neq (.t 22) (.k (.s []))⟩, ⟨some 24, none, .pick (.t 17) (.k (.b true)) (.t 23)⟩, ⟨some 25, none, .mv (.t 24)⟩, ⟨some 26, some (25, false), .mv (.t 4)⟩, ⟨some 27, some (25, false), .mv (.t 5)⟩, ⟨some 28, some (25, false), .bin .sub (.t 27) (.k (.i .i64 2))⟩, ⟨some 29, some (25, false), .ias 1 (.t 26) (.t 28)⟩, ⟨some 30, some (25, false), .ld false 1 (.t 29)⟩, ⟨some 31, some (25, false), .bin .neq (.t 30) (.k (.s []))⟩, ⟨some 32, none, .pick (.t 25) (.k (.b true)) (.t 31)⟩])
  (.cond (.t 32)
   (.seq (rg false [⟨some 2, none, .mv (.k (.nils))⟩, ⟨some 3, none, .mv (.k (.i .i64 5))⟩])
   .ret)
   .skip))
  (.seq (rg false [⟨some 33, none, .mv (.t 4)⟩, ⟨some 34, none, .mv (.t 5)⟩, ⟨some 35, none, .bin .sub (.t 34) (.k (.i .i64 2))⟩, ⟨some 36, none, .sll 1 (.t 33) none (some (.t 35))⟩, ⟨some 4, none, .mv (.t 36)⟩])
  (.seq (.seq (rg false [⟨some 6, none, .mv (.k (.i .i64 0))⟩])
  (.blk 0
   (.loop [4, 6] c_r36_Read_l0)))
  (.seq (.seq (rg false [⟨some 48, none, .mv (.t 4)⟩, ⟨some 49, none, .len (.t 48)⟩, ⟨some 50, none, .bin .gtr (.t 49) (.k (.i .i64 400))⟩])
  (.cond (.t 50)
   (.seq (rg false [⟨some 2, none, .mv (.k (.nils))⟩, ⟨some 3, none, .mv (.k (.i .i64 4))⟩])
   .ret)
   .skip))
  (.seq (rg false [⟨some 7, none, .mv (.k (.nils))⟩])
  (.seq (.seq (rg false [⟨some 8, none, .mv (.k (.i .i64 0))⟩])
  (.blk 2
   (.loop [4, 7, 8] c_r36_Read_l1)))
  (.seq (rg false [⟨some 72, none, .mv (.t 7)⟩, ⟨some 2, none, .mv (.t 72)⟩, ⟨some 3, none, .mv (.k (.i .i64 0))⟩])
  .ret))))))))))⟩
noncomputable def c_lines_Parts_l0 : AC :=
  (.blk 1
   (.seq (rg false [⟨some 10, none, .mv (.t 0)⟩, ⟨some 11, none, .mv (.t 1)⟩, ⟨some 12, none, .call fn_lines_Cut [(.t 10), (.t 11)]⟩, ⟨some 9, none, .mv (.t 12)⟩, ⟨some 13, none, .ext (.t 9) 0⟩, ⟨some 14, none, .ext (.t 9) 1⟩, ⟨some 15, none, .ext (.t 9) 2⟩, ⟨some 6, none, .mv (.t 13)⟩, ⟨some 7, none, .mv (.t 14)⟩, ⟨some 8, none, .mv (.t 15)⟩])
   (.seq (rg false [⟨some 16, none, .mv (.t 5)⟩, ⟨some 17, none, .mv (.t 6)⟩, ⟨some 18, none, .bll 1 (List.replicate 1 T.str.zc) [(0, (.t 17))]⟩, ⟨some 19, none, .app 9 1 16 (.t 16) (.t 18)⟩, ⟨some 5, none, .mv (.t 19)⟩])
   (.seq (.seq (rg false [⟨some 20, none, .mv (.t 8)⟩, ⟨some 21, none, .un .not (.t 20)⟩])
   (.cond (.t 21)
    (.seq (rg false [⟨some 22, none, .mv (.t 5)⟩, ⟨some 4, none, .mv (.t 22)⟩])
    .ret)
    .skip))
   (rg false [⟨some 23, none, .mv (.t 7)⟩, ⟨some 0, none, .mv (.t 23)⟩])))))
noncomputable def c_lines_Parts : AFn := ⟨false, 2, 24, [.tmp 4],
  (.seq (rg false [⟨some 4, none, .mv (.k (.nils))⟩])
  (.seq (rg false [⟨some 5, none, .mv (.k (.nils))⟩])
  (.blk 0
   (.loop [0, 1, 5] c_lines_Parts_l0))))⟩
noncomputable def c_strings_HasSuffix : AFn := ⟨false, 2, 8, [.tmp 4],
  (.seq (rg false [⟨some 4, none, .mv (.k (.b false))⟩])
  (.seq (rg false [⟨some 5, none, .mv (.t 0)⟩, ⟨some 6, none, .mv (.t 1)⟩, ⟨some 7, none, .call fn_internal_stringslite_HasSuffix [(.t 5), (.t 6)]⟩, ⟨some 4, none, .mv (.t 7)⟩])
  .ret))⟩
noncomputable def c_strings_Split : AFn := ⟨false, 2, 8, [.tmp 4],
  (.seq (rg false [⟨some 4, none, .mv (.k (.nils))⟩])
  (.seq (rg false [⟨some 5, none, .mv (.t 0)⟩, ⟨some 6, none, .mv (.t 1)⟩, ⟨some 7, none, .call fn_strings_genSplit [(.t 5), (.t 6), (.k (.i .i64 0)), (.k (.i .i64 (-1)))]⟩, ⟨some 4, none, .mv (.t 7)⟩])
  .ret))⟩
noncomputable def c_strings_TrimSuffix : AFn := ⟨false, 2, 8, [.tmp 4],
  (.seq (rg false [⟨some 4, none, .mv (.k (.s []))⟩])
  (.seq (rg false [⟨some 5, none, .mv (.t 0)⟩, ⟨some 6, none, .mv (.t 1)⟩, ⟨some 7, none, .call fn_internal_stringslite_TrimSuffix [(.t 5), (.t 6)]⟩, ⟨some 4, none, .mv (.t 7)⟩])
  .ret))⟩
noncomputable def c_p_strings_Builder_WriteString : AFn := ⟨false, 2, 19, [.tmp 4, .tmp 5],
  (.seq (rg false [⟨some 4, none, .mv (.k (.i .i64 0))⟩, ⟨some 5, none, .mv (.k (.nili))⟩])
  (.seq (rg false [⟨some 6, none, .mv (.t 0)⟩, ⟨some 7, none, .call fn_p_strings_Builder_copyCheck [(.t 6)]⟩])
  (.seq (rg false [⟨some 8, none, .mv (.t 0)⟩, ⟨some 9, none, .mv (.t 0)⟩, ⟨some 10, none, .nilc (.t 9)⟩, ⟨some 11, none, .fa 1 (.t 10)⟩, ⟨some 12, none, .ld false 1 (.t 11)⟩, ⟨some 13, none, .mv (.t 1)⟩, ⟨some 14, none, .app 5 1 1 (.t 12) (.t 13)⟩, ⟨some 15, none, .nilc (.t 8)⟩, ⟨some 16, none, .fa 1 (.t 15)⟩, ⟨none, none, .st 1 (.t 16) (.t 14)⟩])
  (.seq (rg false [⟨some 17, none, .mv (.t 1)⟩, ⟨some 18, none, .lens (.t 17)⟩, ⟨some 4, none, .mv (.t 18)⟩, ⟨some 5, none, .mv (.k (.nili))⟩])
  .ret))))⟩
noncomputable def c_p_strings_Builder_String : AFn := ⟨false, 1, 14, [.tmp 2],
  (.seq (rg false [⟨some 2, none, .mv (.k (.s []))⟩])
  (.seq (.regd [⟨some 3, none, .mv (.t 0)⟩, ⟨some 4, none, .nilc (.t 3)⟩, ⟨some 5, none, .fa 1 (.t 4)⟩, ⟨some 6, none, .ld false 1 (.t 5)⟩, ⟨some 7, none, .usd (.t 6)⟩, ⟨some 8, none, .mv (.t 0)⟩, ⟨some 9, none, .nilc (.t 8)⟩, ⟨some 10, none, .fa 1 (.t 9)⟩, ⟨some 11, none, .ld false 1 (.t 10)⟩, ⟨some 12, none, .len (.t 11)⟩, ⟨some 13, none, .ust 5 (.t 7) (.t 12)⟩, ⟨some 2, none, .mv (.t 13)⟩] [some (0, 0), some (0, 0), some (0, 0), some (0, 0), some (0, 0), some (0, 0), some (0, 0), some (0, 0), some (0, 0), some (0, 0), none, some (1, 1)])
  .ret))⟩
noncomputable def c_pairline_Text : AFn := ⟨false, 1, 28, [.tmp 2, .tmp 3],
  (.seq (rg false [⟨some 1, none, .box 37 2 (.t 0)⟩, ⟨some 2, none, .mv (.k (.s []))⟩, ⟨some 3, none, .mv (.k (.i .i64 0))⟩])
  (.seq (.seq (rg false [⟨some 5, none, .fa 0 (.t 1)⟩, ⟨some 6, none, .ld false 1 (.t 5)⟩, ⟨some 7, none, .bin .eql (.t 6) (.k (.s []))⟩, ⟨some 8, none, .mv (.t 7)⟩, ⟨some 9, some (8, false), .fa 0 (.t 1)⟩, ⟨some 10, some (8, false), .ld false 1 (.t 9)⟩, ⟨some 11, some (8, false), .call fn_strings_ContainsAny [(.t 10), (.k (.s [61, 10]))]⟩, ⟨some 12, none, .pick (.t 8) (.k (.b true)) (.t 11)⟩, ⟨some 13, none, .mv (.t 12)⟩, ⟨some 14, some (13, false), .fa 1 (.t 1)⟩, ⟨some 15, some (13, false), .ld false 1 (.t 14)⟩, ⟨some 16, some (13, false), .call fn_strings_Contains [(.t 15), (.k (.s [10]))]⟩, ⟨some 17, none, .pick (.t 13) (.k (.b true)) (.t 16)⟩])
  (.cond (.t 17)
   (.seq (rg false [⟨some 2, none, .mv (.k (.s []))⟩, ⟨some 3, none, .mv (.k (.i .i64 5))⟩])
   .ret)
   .skip))
  (.seq (rg false [⟨some 18, none, .fa 0 (.t 1)⟩, ⟨some 19, none, .ld false 1 (.t 18)⟩, ⟨some 20, none, .bin .add (.t 19) (.k (.s [61]))⟩, ⟨some 21, none, .fa 1 (.t 1)⟩, ⟨some 22, none, .ld false 1 (.t 21)⟩, ⟨some 23, none, .bin .add (.t 20) (.t 22)⟩, ⟨some 4, none, .mv (.t 23)⟩])
  (.seq (.seq (rg false [⟨some 24, none, .mv (.t 4)⟩, ⟨some 25, none, .lens (.t 24)⟩, ⟨some 26, none, .bin .gtr (.t 25) (.k (.i .i64 512))⟩])
  (.cond (.t 26)
   (.seq (rg false [⟨some 2, none, .mv (.k (.s []))⟩, ⟨some 3, none, .mv (.k (.i .i64 4))⟩])
   .ret)
   .skip))
  (.seq (rg false [⟨some 27, none, .mv (.t 4)⟩, ⟨some 2, none, .mv (.t 27)⟩, ⟨some 3, none, .mv (.k (.i .i64 0))⟩])
  .ret)))))⟩
noncomputable def c_r36_Text : AFn := ⟨false, 1, 33, [.tmp 2, .tmp 3],
  (.seq (rg false [⟨some 1, none, .box 38 2 (.t 0)⟩, ⟨some 2, none, .mv (.k (.s []))⟩, ⟨some 3, none, .mv (.k (.i .i64 0))⟩])
  (.seq (.seq (rg false [⟨some 5, none, .fa 0 (.t 1)⟩, ⟨some 6, none, .ld false 1 (.t 5)⟩, ⟨some 7, none, .bin .eql (.t 6) (.k (.s []))⟩, ⟨some 8, none, .mv (.t 7)⟩, ⟨some 9, some (8, false), .fa 0 (.t 1)⟩, ⟨some 10, some (8, false), .ld false 1 (.t 9)⟩, ⟨some 11, some (8, false), .call fn_r36_has [(.t 10), (.k (.i .u8 61))]⟩, ⟨some 12, none, .pick (.t 8) (.k (.b true)) (.t 11)⟩, ⟨some 13, none, .mv (.t 12)⟩, ⟨some 14, some (13, false), .fa 0 (.t 1)⟩, ⟨some 15, some (13, false), .ld false 1 (.t 14)⟩, ⟨some 16, some (13, false), .call fn_r36_has [(.t 15), (.k (.i .u8 10))]⟩, ⟨some 17, none, .pick (.t 13) (.k (.b true)) (.t 16)⟩, ⟨some 18, none, .mv (.t 17)⟩, ⟨some 19, some (18, false), .fa 1 (.t 1)⟩, ⟨some 20, some (18, false), .ld false 1 (.t 19)⟩, ⟨some 21, some (18, false), .call fn_r36_has [(.t 20), (.k (.i .u8 10))]⟩, ⟨some 22, none, .pick (.t 18) (.k (.b true)) (.t 21)⟩])
  (.cond (.t 22)
   (.seq (rg false [⟨some 2, none, .mv (.k (.s []))⟩, ⟨some 3, none, .mv (.k (.i .i64 5))⟩])
   .ret)
   .skip))
  (.seq (rg false [⟨some 23, none, .fa 0 (.t 1)⟩, ⟨some 24, none, .ld false 1 (.t 23)⟩, ⟨some 25, none, .bin .add (.t 24) (.k (.s [61]))⟩, ⟨some 26, none, .fa 1 (.t 1)⟩, ⟨some 27, none, .ld false 1 (.t 26)⟩, ⟨some 28, none, .bin .add (.t 25) (.t 27)⟩, ⟨some 4, none, .mv (.t 28)⟩])
  (.seq (.seq (rg false [⟨some 29, none, .mv (.t 4)⟩, ⟨some 30, none, .lens (.t 29)⟩, ⟨some 31, none, .bin .gtr (.t 30) (.k (.i .i64 512))⟩])
  (.cond (.t 31)
   (.seq (rg false [⟨some 2, none, .mv (.k (.s []))⟩, ⟨some 3, none, .mv (.k (.i .i64 4))⟩])
   .ret)
   .skip))
  (.seq (rg false [⟨some 32, none, .mv (.t 4)⟩, ⟨some 2, none, .mv (.t 32)⟩, ⟨some 3, none, .mv (.k (.i .i64 0))⟩])
  .ret)))))⟩
noncomputable def c_slices_Index_string_l0 : AC :=
  (.seq (rg false [⟨some 9, none, .bin .lss (.t 8) (.t 7)⟩])
  (.seq (.cond (.t 9)
   .skip
   (.exit 0))
  (.seq (.blk 1
   (.seq (rg false [⟨some 10, none, .mv (.t 8)⟩, ⟨some 5, none, .mv (.t 10)⟩])
   (.seq (rg false [⟨some 11, none, .mv (.t 1)⟩, ⟨some 12, none, .mv (.t 0)⟩, ⟨some 13, none, .mv (.t 5)⟩, ⟨some 14, none, .ias 1 (.t 12) (.t 13)⟩, ⟨some 15, none, .ld false 1 (.t 14)⟩, ⟨some 16, none, .bin .eql (.t 11) (.t 15)⟩])
   (.cond (.t 16)
    (.seq (rg false [⟨some 17, none, .mv (.t 5)⟩, ⟨some 4, none, .mv (.t 17)⟩])
    .ret)
    .skip))))
  (rg false [⟨some 18, none, .bin .add (.t 8) (.k (.i .i64 1))⟩, ⟨some 8, none, .mv (.t 18)⟩]))))
noncomputable def c_slices_Index_string : AFn := ⟨false, 2, 19, [.tmp 4],
  (.seq (rg false [⟨some 4, none, .mv (.k (.i .i64 0))⟩])
  (.seq (.seq (rg false [⟨some 6, none, .mv (.t 0)⟩, ⟨some 7, none, .len (.t 6)⟩, ⟨some 8, none, .mv (.k (.i .i64 0))⟩])
  (.blk 0
   (.loop [0, 1, 7, 8] c_slices_Index_string_l0)))
  (.seq (rg false [⟨some 4, none, .mv (.k (.i .i64 (-1)))⟩])
  .ret)))⟩
noncomputable def c_pairline_Parse : AFn := ⟨false, 1, 31, [.cell true 2 2, .tmp 3],
  (.seq (rg false [⟨some 2, none, .alloc 37 T_pairline_Pair.zc⟩, ⟨some 3, none, .mv (.k (.i .i64 0))⟩])
  (.seq (.seq (rg false [⟨some 7, none, .mv (.t 0)⟩, ⟨some 8, none, .lens (.t 7)⟩, ⟨some 9, none, .bin .gtr (.t 8) (.k (.i .i64 512))⟩])
  (.cond (.t 9)
   (.seq (rg false [⟨some 10, none, .bld T_pairline_Pair.zc []⟩, ⟨none, none, .st 2 (.t 2) (.t 10)⟩, ⟨some 3, none, .mv (.k (.i .i64 4))⟩])
   .ret)
   .skip))
  (.seq (rg false [⟨some 12, none, .mv (.t 0)⟩, ⟨some 13, none, .call fn_lines_Cut [(.t 12), (.k (.i .u8 61))]⟩, ⟨some 11, none, .mv (.t 13)⟩, ⟨some 14, none, .ext (.t 11) 0⟩, ⟨some 15, none, .ext (.t 11) 1⟩, ⟨some 16, none, .ext (.t 11) 2⟩, ⟨some 4, none, .mv (.t 14)⟩, ⟨some 5, none, .mv (.t 15)⟩, ⟨some 6, none, .mv (.t 16)⟩])
  (.seq (.seq (rg false [⟨some 17, none, .mv (.t 6)⟩, ⟨some 18, none, .un .not (.t 17)⟩, ⟨some 19, none, .mv (.t 18)⟩, ⟨some 20, some (19, false), .mv (.t 4)⟩, ⟨some 21, some (19, false), .bin .eql (.t 20) (.k (.s []))⟩, ⟨some 22, none, .pick (.t 19) (.k (.b true)) (.t 21)⟩, ⟨some 23, none, .mv (.t 22)⟩, ⟨some 24, some (23, false), .mv (.t 0)⟩, ⟨some 25, some (23, false), .call fn_strings_Contains [(.t 24), (.k (.s [10]))]⟩, ⟨some 26, none, .pick (.t 23) (.k (.b true)) (.t 25)⟩])
  (.cond (.t 26)
   (.seq (rg false [⟨some 27, none, .bld T_pairline_Pair.zc []⟩, ⟨none, none, .st 2 (.t 2) (.t 27)⟩, ⟨some 3, none, .mv (.k (.i .i64 5))⟩])
   .ret)
   .skip))
  (.seq (rg false [⟨some 28, none, .mv (.t 4)⟩, ⟨some 29, none, .mv (.t 5)⟩, ⟨some 30, none, .bld T_pairline_Pair.zc [(0, 1, (.t 28)), (1, 1, (.t 29))]⟩, ⟨none, none, .st 2 (.t 2) (.t 30)⟩, ⟨some 3, none, .mv (.k (.i .i64 0))⟩])
  .ret)))))⟩
noncomputable def c_r36_Parse : AFn := ⟨false, 1, 32, [.cell true 2 2, .tmp 3],
  (.seq (rg false [⟨some 2, none, .alloc 38 T_r36_Pair.zc⟩, ⟨some 3, none, .mv (.k (.i .i64 0))⟩])
  (.seq (.seq (rg false [⟨some 5, none, .mv (.t 0)⟩, ⟨some 6, none, .lens (.t 5)⟩, ⟨some 7, none, .bin .gtr (.t 6) (.k (.i .i64 512))⟩])
  (.cond (.t 7)
   (.seq (rg false [⟨some 8, none, .bld T_r36_Pair.zc []⟩, ⟨none, none, .st 2 (.t 2) (.t 8)⟩, ⟨some 3, none, .mv (.k (.i .i64 4))⟩])
   .ret)
   .skip))
  (.seq (rg false [⟨some 9, none, .mv (.t 0)⟩, ⟨some 10, none, .call fn_r06_Parts [(.t 9), (.k (.i .u8 61))]⟩, ⟨some 11, none, .ias 1 (.t 10) (.k (.i .i64 0))⟩, ⟨some 12, none, .ld false 1 (.t 11)⟩, ⟨some 4, none, .mv (.t 12)⟩])
  (.seq (.seq (rg false [⟨some 13, none, .mv (.t 4)⟩, ⟨some 14, none, .bin .eql (.t 13) (.k (.s []))⟩, ⟨some 15, none, .mv (.t 14)⟩, ⟨some 16, some (15, false), .mv (.t 0)⟩, ⟨some 17, some (15, false), .call fn_r36_has [(.t 16), (.k (.i .u8 61))]⟩, ⟨some 18, some (15, false), .un .not (.t 17)⟩, ⟨some 19, none, .pick (.t 15) (.k (.b true)) (.t 18)⟩, ⟨some 20, none, .mv (.t 19)⟩, ⟨some 21, some (20, false), .mv (.t 0)⟩, ⟨some 22, some (20, false), .call fn_r36_has [(.t 21), (.k (.i .u8 10))]⟩, ⟨some 23, none, .pick (.t 20) (.k (.b true)) (.t 22)⟩])
  (.cond (.t 23)
   (.seq (rg false [⟨some 24, none, .bld T_r36_Pair.zc []⟩, ⟨none, none, .st 2 (.t 2) (.t 24)⟩, ⟨some 3, none, .mv (.k (.i .i64 5))⟩])
   .ret)
   .skip))
  (.seq (rg false [⟨some 25, none, .mv (.t 4)⟩, ⟨some 26, none, .mv (.t 0)⟩, ⟨some 27, none, .mv (.t 4)⟩, ⟨some 28, none, .lens (.t 27)⟩, ⟨some 29, none, .bin .add (.t 28) (.k (.i .i64 1))⟩, ⟨some 30, none, .sls (.t 26) (some (.t 29)) none⟩, ⟨some 31, none, .bld T_r36_Pair.zc [(0, 1, (.t 25)), (1, 1, (.t 30))]⟩, ⟨none, none, .st 2 (.t 2) (.t 31)⟩, ⟨some 3, none, .mv (.k (.i .i64 0))⟩])
  .ret)))))⟩
noncomputable def c_lines_Cut : AFn := ⟨false, 2, 21, [.tmp 4, .tmp 5, .tmp 6],
  (.seq (rg false [⟨some 4, none, .mv (.k (.s []))⟩, ⟨some 5, none, .mv (.k (.s []))⟩, ⟨some 6, none, .mv (.k (.b false))⟩])
  (.seq (rg false [⟨some 8, none, .mv (.t 0)⟩, ⟨some 9, none, .mv (.t 1)⟩, ⟨some 10, none, .call fn_strings_IndexByte [(.t 8), (.t 9)]⟩, ⟨some 7, none, .mv (.t 10)⟩])
  (.seq (.seq (rg false [⟨some 11, none, .mv (.t 7)⟩, ⟨some 12, none, .bin .lss (.t 11) (.k (.i .i64 0))⟩])
  (.cond (.t 12)
   (.seq (rg false [⟨some 13, none, .mv (.t 0)⟩, ⟨some 4, none, .mv (.t 13)⟩, ⟨some 5, none, .mv (.k (.s []))⟩, ⟨some 6, none, .mv (.k (.b false))⟩])
   .ret)
   .skip))
  (.seq (rg true [⟨some 14, none, .mv (.t 0)⟩, ⟨some 15, none, .mv (.t 7)⟩, ⟨some 16, none, .sls (.t 14) none (some (.t 15))⟩, ⟨some 17, none, .mv (.t 0)⟩, ⟨some 18, none, .mv (.t 7)⟩, ⟨some 19, none, .bin .add (.t 18) (.k (.i .i64 1))⟩, ⟨some 20, none, .sls (.t 17) (some (.t 19)) none⟩, ⟨some 4, none, .mv (.t 16)⟩, ⟨some 5, none, .mv (.t 20)⟩, ⟨some 6, none, .mv (.k (.b true))⟩])
  .ret))))⟩
noncomputable def c_internal_stringslite_HasSuffix : AFn := ⟨false, 2, 21, [.tmp 4],
  (.seq (rg false [⟨some 4, none, .mv (.k (.b false))⟩])
  (.seq (rg false [⟨some 5, none, .mv (.t 0)⟩, ⟨some 6, none, .lens (.t 5)⟩, ⟨some 7, none, .mv (.t 1)⟩, ⟨some 8, none, .lens (.t 7)⟩, ⟨some 9, none, .bin .geq (.t 6) (.t 8)⟩, ⟨some 10, none, .mv (.t 9)⟩, ⟨some 11, some (10, true), .mv (.t 0)⟩, ⟨some 12, some (10, true), .mv (.t 0)⟩, ⟨some 13, some (10, true), .lens (.t 12)⟩, ⟨some 14, some (10, true), .mv (.t 1)⟩, ⟨some 15, some (10, true), .lens (.t 14)⟩, ⟨some 16, some (10, true), .bin .sub (.t 13) (.t 15)⟩, ⟨some 17, some (10, true), .sls (.t 11) (some (.t 16)) none⟩, ⟨some 18, some (10, true), .mv (.t 1)⟩, ⟨some 19, some (10, true), .bin .eql (.t 17) (.t 18)⟩, ⟨some 20, none, .pick (.t 10) (.t 19) (.k (.b false))⟩, ⟨some 4, none, .mv (.t 20)⟩])
  .ret))⟩
noncomputable def c_strings_genSplit_l0 : AC :=
  (.seq (.seq (rg false [⟨some 34, none, .mv (.t 10)⟩, ⟨some 35, none, .mv (.t 3)⟩, ⟨some 36, none, .bin .lss (.t 34) (.t 35)⟩])
  (.cond (.t 36)
   .skip
   (.exit 0)))
  (.blk 1
   (.seq (rg false [⟨some 37, none, .mv (.t 0)⟩, ⟨some 38, none, .mv (.t 1)⟩, ⟨some 39, none, .call fn_strings_Index [(.t 37), (.t 38)]⟩, ⟨some 11, none, .mv (.t 39)⟩])
   (.seq (.seq (rg false [⟨some 40, none, .mv (.t 11)⟩, ⟨some 41, none, .bin .lss (.t 40) (.k (.i .i64 0))⟩])
   (.cond (.t 41)
    (.exit 0)
    .skip))
   (.seq (rg false [⟨some 42, none, .mv (.t 9)⟩, ⟨some 43, none, .mv (.t 10)⟩, ⟨some 44, none, .mv (.t 0)⟩, ⟨some 45, none, .mv (.t 11)⟩, ⟨some 46, none, .mv (.t 2)⟩, ⟨some 47, none, .bin .add (.t 45) (.t 46)⟩, ⟨some 48, none, .sls (.t 44) none (some (.t 47))⟩, ⟨some 49, none, .ias 1 (.t 42) (.t 43)⟩, ⟨none, none, .st 1 (.t 49) (.t 48)⟩])
   (.seq (rg false [⟨some 50, none, .mv (.t 0)⟩, ⟨some 51, none, .mv (.t 11)⟩, ⟨some 52, none, .mv (.t 1)⟩, ⟨some 53, none, .lens (.t 52)⟩, ⟨some 54, none, .bin .add (.t 51) (.t 53)⟩, ⟨some 55, none, .sls (.t 50) (some (.t 54)) none⟩, ⟨some 0, none, .mv (.t 55)⟩])
   (rg false [⟨some 56, none, .mv (.t 10)⟩, ⟨some 57, none, .bin .add (.t 56) (.k (.i .i64 1))⟩, ⟨some 10, none, .mv (.t 57)⟩])))))))
noncomputable def c_strings_genSplit : AFn := ⟨false, 4, 66, [.tmp 8],
  (.seq (rg false [⟨some 8, none, .mv (.k (.nils))⟩])
  (.seq (.seq (rg false [⟨some 12, none, .mv (.t 3)⟩, ⟨some 13, none, .bin .eql (.t 12) (.k (.i .i64 0))⟩])
  (.cond (.t 13)
   (.seq (rg false [⟨some 8, none, .mv (.k (.nils))⟩])
   .ret)
   .skip))
  (.seq (.seq (rg false [⟨some 14, none, .mv (.t 1)⟩, ⟨some 15, none, .bin .eql (.t 14) (.k (.s []))⟩])
  (.cond (.t 15)
   (.seq (rg false [⟨some 16, none, .mv (.t 0)⟩, ⟨some 17, none, .mv (.t 3)⟩, ⟨some 18, none, .call fn_strings_explode [(.t 16), (.t 17)]⟩, ⟨some 8, none, .mv (.t 18)⟩])
   .ret)
   .skip))
  (.seq (.seq (rg false [⟨some 19, none, .mv (.t 3)⟩, ⟨some 20, none, .bin .lss (.t 19) (.k (.i .i64 0))⟩])
  (.cond (.t 20)
   (rg false [⟨some 21, none, .mv (.t 0)⟩, ⟨some 22, none, .mv (.t 1)⟩, ⟨some 23, none, .call fn_strings_Count [(.t 21), (.t 22)]⟩, ⟨some 24, none, .bin .add (.t 23) (.k (.i .i64 1))⟩, ⟨some 3, none, .mv (.t 24)⟩])
   .skip))
  (.seq (rg false [⟨some 25, none, .mv (.t 3)⟩, ⟨some 26, none, .mv (.t 0)⟩, ⟨some 27, none, .lens (.t 26)⟩, ⟨some 28, none, .bin .add (.t 27) (.k (.i .i64 1))⟩, ⟨some 29, none, .mnx false (.t 25) (.t 28)⟩, ⟨some 3, none, .mv (.t 29)⟩])
  (.seq (rg false [⟨some 30, none, .mv (.t 3)⟩, ⟨some 31, none, .mks 9 1 16 T.str.zc (.t 30) (.t 30)⟩, ⟨some 9, none, .mv (.t 31)⟩])
  (.seq (rg false [⟨some 32, none, .mv (.t 3)⟩, ⟨some 33, none, .bin .sub (.t 32) (.k (.i .i64 1))⟩, ⟨some 3, none, .mv (.t 33)⟩])
  (.seq (rg false [⟨some 10, none, .mv (.k (.i .i64 0))⟩])
  (.seq (.blk 0
   (.loop [0, 1, 2, 3, 9, 10] c_strings_genSplit_l0))
  (.seq (rg false [⟨some 58, none, .mv (.t 9)⟩, ⟨some 59, none, .mv (.t 10)⟩, ⟨some 60, none, .mv (.t 0)⟩, ⟨some 61, none, .ias 1 (.t 58) (.t 59)⟩, ⟨none, none, .st 1 (.t 61) (.t 60)⟩])
  (.seq (rg false [⟨some 62, none, .mv (.t 9)⟩, ⟨some 63, none, .mv (.t 10)⟩, ⟨some 64, none, .bin .add (.t 63) (.k (.i .i64 1))⟩, ⟨some 65, none, .sll 1 (.t 62) none (some (.t 64))⟩, ⟨some 8, none, .mv (.t 65)⟩])
  .ret)))))))))))⟩
noncomputable def c_internal_stringslite_TrimSuffix : AFn := ⟨false, 2, 16, [.tmp 4],
  (.seq (rg false [⟨some 4, none, .mv (.k (.s []))⟩])
  (.seq (.seq (rg false [⟨some 5, none, .mv (.t 0)⟩, ⟨some 6, none, .mv (.t 1)⟩, ⟨some 7, none, .call fn_internal_stringslite_HasSuffix [(.t 5), (.t 6)]⟩])
  (.cond (.t 7)
   (.seq (rg false [⟨some 8, none, .mv (.t 0)⟩, ⟨some 9, none, .mv (.t 0)⟩, ⟨some 10, none, .lens (.t 9)⟩, ⟨some 11, none, .mv (.t 1)⟩, ⟨some 12, none, .lens (.t 11)⟩, ⟨some 13, none, .bin .sub (.t 10) (.t 12)⟩, ⟨some 14, none, .sls (.t 8) none (some (.t 13))⟩, ⟨some 4, none, .mv (.t 14)⟩])
   .ret)
   .skip))
  (.seq (rg false [⟨some 15, none, .mv (.t 0)⟩, ⟨some 4, none, .mv (.t 15)⟩])
  .ret)))⟩
noncomputable def c_p_strings_Builder_copyCheck : AFn := ⟨false, 1, 20, [],
  (.seq (rg false [⟨some 2, none, .mv (.t 0)⟩, ⟨some 3, none, .nilc (.t 2)⟩, ⟨some 4, none, .fa 0 (.t 3)⟩, ⟨some 5, none, .ld false 1 (.t 4)⟩, ⟨some 6, none, .eq false .p (.t 5) (.k (.nilp))⟩])
  (.cond (.t 6)
   (rg false [⟨some 7, none, .mv (.t 0)⟩, ⟨some 8, none, .mv (.t 0)⟩, ⟨some 9, none, .cvp (.t 8)⟩, ⟨some 10, none, .call fn_internal_abi_NoEscape [(.t 9)]⟩, ⟨some 11, none, .cvu 65 2 (.t 10)⟩, ⟨some 12, none, .nilc (.t 7)⟩, ⟨some 13, none, .fa 0 (.t 12)⟩, ⟨none, none, .st 1 (.t 13) (.t 11)⟩])
   (.seq (rg false [⟨some 14, none, .mv (.t 0)⟩, ⟨some 15, none, .nilc (.t 14)⟩, ⟨some 16, none, .fa 0 (.t 15)⟩, ⟨some 17, none, .ld false 1 (.t 16)⟩, ⟨some 18, none, .mv (.t 0)⟩, ⟨some 19, none, .eqp true (.t 17) (.t 18)⟩])
   (.cond (.t 19)
    .stop
    .skip))))⟩
noncomputable def c_strings_ContainsAny : AFn := ⟨false, 2, 9, [.tmp 4],
  (.seq (rg false [⟨some 4, none, .mv (.k (.b false))⟩])
  (.seq (rg false [⟨some 5, none, .mv (.t 0)⟩, ⟨some 6, none, .mv (.t 1)⟩, ⟨some 7, none, .call fn_strings_IndexAny [(.t 5), (.t 6)]⟩, ⟨some 8, none, .bin .geq (.t 7) (.k (.i .i64 0))⟩, ⟨some 4, none, .mv (.t 8)⟩])
  .ret))⟩
noncomputable def c_strings_Contains : AFn := ⟨false, 2, 9, [.tmp 4],
  (.seq (rg false [⟨some 4, none, .mv (.k (.b false))⟩])
  (.seq (rg false [⟨some 5, none, .mv (.t 0)⟩, ⟨some 6, none, .mv (.t 1)⟩, ⟨some 7, none, .call fn_strings_Index [(.t 5), (.t 6)]⟩, ⟨some 8, none, .bin .geq (.t 7) (.k (.i .i64 0))⟩, ⟨some 4, none, .mv (.t 8)⟩])
  .ret))⟩
noncomputable def c_r36_has : AFn := ⟨false, 2, 10, [.tmp 4],
  (.seq (rg false [⟨some 4, none, .mv (.k (.b false))⟩])
  (.seq (rg false [⟨some 5, none, .mv (.t 0)⟩, ⟨some 6, none, .mv (.t 1)⟩, ⟨some 7, none, .call fn_r06_Parts [(.t 5), (.t 6)]⟩, ⟨some 8, none, .len (.t 7)⟩, ⟨some 9, none, .bin .gtr (.t 8) (.k (.i .i64 1))⟩, ⟨some 4, none, .mv (.t 9)⟩])
  .ret))⟩
noncomputable def c_strings_IndexByte : AFn := ⟨false, 2, 8, [.tmp 4],
  (.seq (rg false [⟨some 4, none, .mv (.k (.i .i64 0))⟩])
  (.seq (rg false [⟨some 5, none, .mv (.t 0)⟩, ⟨some 6, none, .mv (.t 1)⟩, ⟨some 7, none, .call fn_internal_stringslite_IndexByte [(.t 5), (.t 6)]⟩, ⟨some 4, none, .mv (.t 7)⟩])
  .ret))⟩
noncomputable def c_strings_explode_l0 : AC :=
  (.seq (.seq (rg false [⟨some 22, none, .mv (.t 7)⟩, ⟨some 23, none, .mv (.t 1)⟩, ⟨some 24, none, .bin .sub (.t 23) (.k (.i .i64 1))⟩, ⟨some 25, none, .bin .lss (.t 22) (.t 24)⟩])
  (.cond (.t 25)
   .skip
   (.exit 0)))
  (.seq (.blk 1
   (.seq (rg false [⟨some 29, none, .mv (.t 0)⟩, ⟨some 30, none, .call fn_unicode_utf8_DecodeRuneInString [(.t 29)]⟩, ⟨some 28, none, .mv (.t 30)⟩, ⟨some 31, none, .ext (.t 28) 0⟩, ⟨some 32, none, .ext (.t 28) 1⟩, ⟨some 8, none, .mv (.t 31)⟩, ⟨some 9, none, .mv (.t 32)⟩])
   (.seq (rg false [⟨some 33, none, .mv (.t 6)⟩, ⟨some 34, none, .mv (.t 7)⟩, ⟨some 35, none, .mv (.t 0)⟩, ⟨some 36, none, .mv (.t 9)⟩, ⟨some 37, none, .sls (.t 35) none (some (.t 36))⟩, ⟨some 38, none, .ias 1 (.t 33) (.t 34)⟩, ⟨none, none, .st 1 (.t 38) (.t 37)⟩])
   (rg false [⟨some 39, none, .mv (.t 0)⟩, ⟨some 40, none, .mv (.t 9)⟩, ⟨some 41, none, .sls (.t 39) (some (.t 40)) none⟩, ⟨some 0, none, .mv (.t 41)⟩]))))
  (rg false [⟨some 26, none, .mv (.t 7)⟩, ⟨some 27, none, .bin .add (.t 26) (.k (.i .i64 1))⟩, ⟨some 7, none, .mv (.t 27)⟩])))
noncomputable def c_strings_explode : AFn := ⟨false, 2, 50, [.tmp 4],
  (.seq (rg false [⟨some 4, none, .mv (.k (.nils))⟩])
  (.seq (rg false [⟨some 10, none, .mv (.t 0)⟩, ⟨some 11, none, .call fn_unicode_utf8_RuneCountInString [(.t 10)]⟩, ⟨some 5, none, .mv (.t 11)⟩])
  (.seq (.seq (rg false [⟨some 12, none, .mv (.t 1)⟩, ⟨some 13, none, .bin .lss (.t 12) (.k (.i .i64 0))⟩, ⟨some 14, none, .mv (.t 13)⟩, ⟨some 15, some (14, false), .mv (.t 1)⟩, ⟨some 16, some (14, false), .mv (.t 5)⟩, ⟨some 17, some (14, false), .bin .gtr (.t 15) (.t 16)⟩, ⟨some 18, none, .pick (.t 14) (.k (.b true)) (.t 17)⟩])
  (.cond (.t 18)
   (rg false [⟨some 19, none, .mv (.t 5)⟩, ⟨some 1, none, .mv (.t 19)⟩])
   .skip))
  (.seq (rg false [⟨some 20, none, .mv (.t 1)⟩, ⟨some 21, none, .mks 9 1 16 T.str.zc (.t 20) (.t 20)⟩, ⟨some 6, none, .mv (.t 21)⟩])
  (.seq (.seq (rg false [⟨some 7, none, .mv (.k (.i .i64 0))⟩])
  (.blk 0
   (.loop [0, 1, 6, 7] c_strings_explode_l0)))
  (.seq (.seq (rg false [⟨some 42, none, .mv (.t 1)⟩, ⟨some 43, none, .bin .gtr (.t 42) (.k (.i .i64 0))⟩])
  (.cond (.t 43)
   (rg false [⟨some 44, none, .mv (.t 6)⟩, ⟨some 45, none, .mv (.t 1)⟩, ⟨some 46, none, .bin .sub (.t 45) (.k (.i .i64 1))⟩, ⟨some 47, none, .mv (.t 0)⟩, ⟨some 48, none, .ias 1 (.t 44) (.t 46)⟩, ⟨none, none, .st 1 (.t 48) (.t 47)⟩])
   .skip))
  (.seq (rg false [⟨some 49, none, .mv (.t 6)⟩, ⟨some 4, none, .mv (.t 49)⟩])
  .ret)))))))⟩
noncomputable def c_strings_Count_l0 : AC :=
  (.blk 1
   (.seq (rg false [⟨some 20, none, .mv (.t 0)⟩, ⟨some 21, none, .mv (.t 1)⟩, ⟨some 22, none, .call fn_strings_Index [(.t 20), (.t 21)]⟩, ⟨some 6, none, .mv (.t 22)⟩])
   (.seq (.seq (rg false [⟨some 23, none, .mv (.t 6)⟩, ⟨some 24, none, .bin .eql (.t 23) (.k (.i .i64 (-1)))⟩])
   (.cond (.t 24)
    (.seq (rg false [⟨some 25, none, .mv (.t 5)⟩, ⟨some 4, none, .mv (.t 25)⟩])
    .ret)
    .skip))
   (.seq (rg false [⟨some 26, none, .mv (.t 5)⟩, ⟨some 27, none, .bin .add (.t 26) (.k (.i .i64 1))⟩, ⟨some 5, none, .mv (.t 27)⟩])
   (rg false [⟨some 28, none, .mv (.t 0)⟩, ⟨some 29, none, .mv (.t 6)⟩, ⟨some 30, none, .mv (.t 1)⟩, ⟨some 31, none, .lens (.t 30)⟩, ⟨some 32, none, .bin .add (.t 29) (.t 31)⟩, ⟨some 33, none, .sls (.t 28) (some (.t 32)) none⟩, ⟨some 0, none, .mv (.t 33)⟩])))))
noncomputable def c_strings_Count : AFn := ⟨false, 2, 34, [.tmp 4],
  (.seq (rg false [⟨some 4, none, .mv (.k (.i .i64 0))⟩])
  (.seq (.seq (rg false [⟨some 7, none, .mv (.t 1)⟩, ⟨some 8, none, .lens (.t 7)⟩, ⟨some 9, none, .bin .eql (.t 8) (.k (.i .i64 0))⟩])
  (.cond (.t 9)
   (.seq (rg false [⟨some 10, none, .mv (.t 0)⟩, ⟨some 11, none, .call fn_unicode_utf8_RuneCountInString [(.t 10)]⟩, ⟨some 12, none, .bin .add (.t 11) (.k (.i .i64 1))⟩, ⟨some 4, none, .mv (.t 12)⟩])
   .ret)
   .skip))
  (.seq (.seq (rg false [⟨some 13, none, .mv (.t 1)⟩, ⟨some 14, none, .lens (.t 13)⟩, ⟨some 15, none, .bin .eql (.t 14) (.k (.i .i64 1))⟩])
  (.cond (.t 15)
   (.seq (rg false [⟨some 16, none, .mv (.t 0)⟩, ⟨some 17, none, .mv (.t 1)⟩, ⟨some 18, none, .ixs (.t 17) (.k (.i .i64 0))⟩, ⟨some 19, none, .call fn_internal_bytealg_CountString [(.t 16), (.t 18)]⟩, ⟨some 4, none, .mv (.t 19)⟩])
   .ret)
   .skip))
  (.seq (rg false [⟨some 5, none, .mv (.k (.i .i64 0))⟩])
  (.blk 0
   (.loop [0, 1, 5] c_strings_Count_l0))))))⟩
noncomputable def c_strings_Index : AFn := ⟨false, 2, 8, [.tmp 4],
  (.seq (rg false [⟨some 4, none, .mv (.k (.i .i64 0))⟩])
  (.seq (rg false [⟨some 5, none, .mv (.t 0)⟩, ⟨some 6, none, .mv (.t 1)⟩, ⟨some 7, none, .call fn_internal_stringslite_Index [(.t 5), (.t 6)]⟩, ⟨some 4, none, .mv (.t 7)⟩])
  .ret))⟩
noncomputable def c_strings_IndexAny_l0 : AC :=
  (.seq (.seq (rg false [⟨some 33, none, .mv (.t 8)⟩, ⟨some 34, none, .mv (.t 0)⟩, ⟨some 35, none, .lens (.t 34)⟩, ⟨some 36, none, .bin .lss (.t 33) (.t 35)⟩])
  (.cond (.t 36)
   .skip
   (.exit 0)))
  (.seq (.blk 1
   (.seq (rg false [⟨some 39, none, .mv (.t 0)⟩, ⟨some 40, none, .mv (.t 8)⟩, ⟨some 41, none, .ixs (.t 39) (.t 40)⟩, ⟨some 42, none, .call fn_p_strings_asciiSet_contains [(.t 6), (.t 41)]⟩])
   (.cond (.t 42)
    (.seq (rg false [⟨some 43, none, .mv (.t 8)⟩, ⟨some 4, none, .mv (.t 43)⟩])
    .ret)
    .skip)))
  (rg false [⟨some 37, none, .mv (.t 8)⟩, ⟨some 38, none, .bin .add (.t 37) (.k (.i .i64 1))⟩, ⟨some 8, none, .mv (.t 38)⟩])))
noncomputable def c_strings_IndexAny_l1 : AC :=
  (.seq (rg false [⟨some 46, none, .nxt (.t 45)⟩, ⟨some 47, none, .ext (.t 46) 0⟩])
  (.seq (.cond (.t 47)
   .skip
   (.exit 2))
  (.blk 3
   (.seq (rg false [⟨some 48, none, .ext (.t 46) 1⟩, ⟨some 49, none, .ext (.t 46) 2⟩, ⟨some 9, none, .mv (.t 48)⟩, ⟨some 10, none, .mv (.t 49)⟩])
   (.seq (rg false [⟨some 50, none, .mv (.t 1)⟩, ⟨some 51, none, .mv (.t 10)⟩, ⟨some 52, none, .call fn_strings_IndexRune [(.t 50), (.t 51)]⟩, ⟨some 53, none, .bin .geq (.t 52) (.k (.i .i64 0))⟩])
   (.cond (.t 53)
    (.seq (rg false [⟨some 54, none, .mv (.t 9)⟩, ⟨some 4, none, .mv (.t 54)⟩])
    .ret)
    .skip))))))
noncomputable def c_strings_IndexAny : AFn := ⟨false, 2, 55, [.tmp 4],
  (.seq (rg false [⟨some 4, none, .mv (.k (.i .i64 0))⟩])
  (.seq (.seq (rg false [⟨some 11, none, .mv (.t 1)⟩, ⟨some 12, none, .bin .eql (.t 11) (.k (.s []))⟩])
  (.cond (.t 12)
   (.seq (rg false [⟨some 4, none, .mv (.k (.i .i64 (-1)))⟩])
   .ret)
   .skip))
  (.seq (.seq (rg false [⟨some 13, none, .mv (.t 1)⟩, ⟨some 14, none, .lens (.t 13)⟩, ⟨some 15, none, .bin .eql (.t 14) (.k (.i .i64 1))⟩])
  (.cond (.t 15)
   (.seq (rg false [⟨some 16, none, .mv (.t 1)⟩, ⟨some 17, none, .ixs (.t 16) (.k (.i .i64 0))⟩, ⟨some 18, none, .cvi .i32 (.t 17)⟩, ⟨some 5, none, .mv (.t 18)⟩])
   (.seq (.seq (rg false [⟨some 19, none, .mv (.t 5)⟩, ⟨some 20, none, .bin .geq (.t 19) (.k (.i .i32 128))⟩])
   (.cond (.t 20)
    (rg false [⟨some 5, none, .mv (.k (.i .i32 65533))⟩])
    .skip))
   (.seq (rg false [⟨some 21, none, .mv (.t 0)⟩, ⟨some 22, none, .mv (.t 5)⟩, ⟨some 23, none, .call fn_strings_IndexRune [(.t 21), (.t 22)]⟩, ⟨some 4, none, .mv (.t 23)⟩])
   .ret)))
   .skip))
  (.seq (.seq (rg false [⟨some 24, none, .mv (.t 0)⟩, ⟨some 25, none, .lens (.t 24)⟩, ⟨some 26, none, .call fn_strings_shouldUseASCIISet [(.t 25)]⟩])
  (.cond (.t 26)
   (.seq (rg false [⟨some 28, none, .mv (.t 1)⟩, ⟨some 29, none, .call fn_strings_makeASCIISet [(.t 28)]⟩, ⟨some 27, none, .mv (.t 29)⟩, ⟨some 30, none, .ext (.t 27) 0⟩, ⟨some 31, none, .ext (.t 27) 1⟩, ⟨some 6, none, .alloc 120 (T.arr 256 T.b).zc⟩, ⟨none, none, .st 256 (.t 6) (.t 30)⟩, ⟨some 7, none, .mv (.t 31)⟩])
   (.seq (rg false [⟨some 32, none, .mv (.t 7)⟩])
   (.cond (.t 32)
    (.seq (.seq (rg false [⟨some 8, none, .mv (.k (.i .i64 0))⟩])
    (.blk 0
     (.loop [0, 6, 8] c_strings_IndexAny_l0)))
    (.seq (rg false [⟨some 4, none, .mv (.k (.i .i64 (-1)))⟩])
    .ret))
    .skip)))
   .skip))
  (.seq (.seq (rg false [⟨some 44, none, .mv (.t 0)⟩, ⟨some 45, none, .rng (.t 44)⟩])
  (.blk 2
   (.loop [1, 45] c_strings_IndexAny_l1)))
  (.seq (rg false [⟨some 4, none, .mv (.k (.i .i64 (-1)))⟩])
  .ret))))))⟩
noncomputable def c_internal_stringslite_IndexByte : AFn := ⟨false, 2, 8, [.tmp 4],
  (.seq (rg false [⟨some 4, none, .mv (.k (.i .i64 0))⟩])
  (.seq (rg false [⟨some 5, none, .mv (.t 0)⟩, ⟨some 6, none, .mv (.t 1)⟩, ⟨some 7, none, .call fn_internal_bytealg_IndexByteString [(.t 5), (.t 6)]⟩, ⟨some 4, none, .mv (.t 7)⟩])
  .ret))⟩
noncomputable def c_unicode_utf8_RuneCountInString_l0 : AC :=
  (.seq (rg false [⟨some 5, none, .nxt (.t 4)⟩, ⟨some 6, none, .ext (.t 5) 0⟩])
  (.seq (.cond (.t 6)
   .skip
   (.exit 0))
  (.blk 1
   (rg false [⟨some 7, none, .mv (.t 2)⟩, ⟨some 8, none, .bin .add (.t 7) (.k (.i .i64 1))⟩, ⟨some 2, none, .mv (.t 8)⟩]))))
noncomputable def c_unicode_utf8_RuneCountInString : AFn := ⟨false, 1, 10, [.tmp 2],
  (.seq (rg false [⟨some 2, none, .mv (.k (.i .i64 0))⟩])
  (.seq (.seq (rg false [⟨some 3, none, .mv (.t 0)⟩, ⟨some 4, none, .rng (.t 3)⟩])
  (.blk 0
   (.loop [2, 4] c_unicode_utf8_RuneCountInString_l0)))
  (.seq (rg false [⟨some 9, none, .mv (.t 2)⟩, ⟨some 2, none, .mv (.t 9)⟩])
  .ret)))⟩
noncomputable def c_unicode_utf8_DecodeRuneInString : AFn := ⟨false, 1, 19, [.tmp 2, .tmp 3],
  (.seq (rg false [⟨some 2, none, .mv (.k (.i .i32 0))⟩, ⟨some 3, none, .mv (.k (.i .i64 0))⟩])
  (.seq (.seq (rg false [⟨some 4, none, .mv (.t 0)⟩, ⟨some 5, none, .bin .neq (.t 4) (.k (.s []))⟩, ⟨some 6, none, .mv (.t 5)⟩, ⟨some 7, some (6, true), .mv (.t 0)⟩, ⟨some 8, some (6, true), .ixs (.t 7) (.k (.i .i64 0))⟩, ⟨some 9, some (6, true), .bin .lss (.t 8) (.k (.i .u8 128))⟩, ⟨some 10, none, .pick (.t 6) (.t 9) (.k (.b false))⟩])
  (.cond (.t 10)
   (.seq (rg false [⟨some 11, none, .mv (.t 0)⟩, ⟨some 12, none, .ixs (.t 11) (.k (.i .i64 0))⟩, ⟨some 13, none, .cvi .i32 (.t 12)⟩, ⟨some 2, none, .mv (.t 13)⟩, ⟨some 3, none, .mv (.k (.i .i64 1))⟩])
   .ret)
   (rg false [⟨some 15, none, .mv (.t 0)⟩, ⟨some 16, none, .call fn_unicode_utf8_decodeRuneInStringSlow [(.t 15)]⟩, ⟨some 14, none, .mv (.t 16)⟩, ⟨some 17, none, .ext (.t 14) 0⟩, ⟨some 18, none, .ext (.t 14) 1⟩, ⟨some 2, none, .mv (.t 17)⟩, ⟨some 3, none, .mv (.t 18)⟩])))
  .ret))⟩
noncomputable def c_internal_stringslite_Index_l0 : AC :=
  (.seq (.seq (rg false [⟨some 57, none, .mv (.t 8)⟩, ⟨some 58, none, .mv (.t 9)⟩, ⟨some 59, none, .bin .lss (.t 57) (.t 58)⟩])
  (.cond (.t 59)
   .skip
   (.exit 1)))
  (.blk 2
   (.seq (.seq (rg false [⟨some 60, none, .mv (.t 0)⟩, ⟨some 61, none, .mv (.t 8)⟩, ⟨some 62, none, .ixs (.t 60) (.t 61)⟩, ⟨some 63, none, .mv (.t 6)⟩, ⟨some 64, none, .bin .neq (.t 62) (.t 63)⟩])
   (.cond (.t 64)
    (.seq (rg false [⟨some 65, none, .mv (.t 0)⟩, ⟨some 66, none, .mv (.t 8)⟩, ⟨some 67, none, .bin .add (.t 66) (.k (.i .i64 1))⟩, ⟨some 68, none, .mv (.t 9)⟩, ⟨some 69, none, .sls (.t 65) (some (.t 67)) (some (.t 68))⟩, ⟨some 70, none, .mv (.t 6)⟩, ⟨some 71, none, .call fn_internal_stringslite_IndexByte [(.t 69), (.t 70)]⟩, ⟨some 11, none, .mv (.t 71)⟩])
    (.seq (.seq (rg false [⟨some 72, none, .mv (.t 11)⟩, ⟨some 73, none, .bin .lss (.t 72) (.k (.i .i64 0))⟩])
    (.cond (.t 73)
     (.seq (rg false [⟨some 4, none, .mv (.k (.i .i64 (-1)))⟩])
     .ret)
     .skip))
    (rg false [⟨some 74, none, .mv (.t 8)⟩, ⟨some 75, none, .mv (.t 11)⟩, ⟨some 76, none, .bin .add (.t 75) (.k (.i .i64 1))⟩, ⟨some 77, none, .bin .add (.t 74) (.t 76)⟩, ⟨some 8, none, .mv (.t 77)⟩])))
    .skip))
   (.seq (.seq (rg false [⟨some 78, none, .mv (.t 0)⟩, ⟨some 79, none, .mv (.t 8)⟩, ⟨some 80, none, .bin .add (.t 79) (.k (.i .i64 1))⟩, ⟨some 81, none, .ixs (.t 78) (.t 80)⟩, ⟨some 82, none, .mv (.t 7)⟩, ⟨some 83, none, .bin .eql (.t 81) (.t 82)⟩, ⟨some 84, none, .mv (.t 83)⟩, ⟨some 85, some (84, true), .mv (.t 0)⟩, ⟨some 86, some (84, true), .mv (.t 8)⟩, ⟨some 87, some (84, true), .mv (.t 8)⟩, ⟨some 88, some (84, true), .mv (.t 5)⟩, ⟨some 89, some (84, true), .bin .add (.t 87) (.t 88)⟩, ⟨some 90, some (84, true), .sls (.t 85) (some (.t 86)) (some (.t 89))⟩, ⟨some 91, some (84, true), .mv (.t 1)⟩, ⟨some 92, some (84, true), .bin .eql (.t 90) (.t 91)⟩, ⟨some 93, none, .pick (.t 84) (.t 92) (.k (.b false))⟩])
   (.cond (.t 93)
    (.seq (rg false [⟨some 94, none, .mv (.t 8)⟩, ⟨some 4, none, .mv (.t 94)⟩])
    .ret)
    .skip))
   (.seq (rg false [⟨some 95, none, .mv (.t 8)⟩, ⟨some 96, none, .bin .add (.t 95) (.k (.i .i64 1))⟩, ⟨some 8, none, .mv (.t 96)⟩])
   (.seq (rg false [⟨some 97, none, .mv (.t 10)⟩, ⟨some 98, none, .bin .add (.t 97) (.k (.i .i64 1))⟩, ⟨some 10, none, .mv (.t 98)⟩])
   (.seq (rg false [⟨some 99, none, .mv (.t 5)⟩, ⟨some 100, none, .ld false 1 (.g 0)⟩, ⟨some 101, none, .bin .leq (.t 99) (.t 100)⟩, ⟨some 102, none, .mv (.t 101)⟩, ⟨some 103, some (102, true), .mv (.t 10)⟩, ⟨some 104, some (102, true), .mv (.t 8)⟩, ⟨some 105, some (102, true), .call fn_internal_bytealg_Cutover [(.t 104)]⟩, ⟨some 106, some (102, true), .bin .gtr (.t 103) (.t 105)⟩, ⟨some 107, none, .pick (.t 102) (.t 106) (.k (.b false))⟩])
   (.cond (.t 107)
    (.seq (rg false [⟨some 108, none, .mv (.t 0)⟩, ⟨some 109, none, .mv (.t 8)⟩, ⟨some 110, none, .sls (.t 108) (some (.t 109)) none⟩, ⟨some 111, none, .mv (.t 1)⟩, ⟨some 112, none, .call fn_internal_bytealg_IndexString [(.t 110), (.t 111)]⟩, ⟨some 12, none, .mv (.t 112)⟩])
    (.seq (.seq (rg false [⟨some 113, none, .mv (.t 12)⟩, ⟨some 114, none, .bin .geq (.t 113) (.k (.i .i64 0))⟩])
    (.cond (.t 114)
     (.seq (rg false [⟨some 115, none, .mv (.t 12)⟩, ⟨some 116, none, .mv (.t 8)⟩, ⟨some 117, none, .bin .add (.t 115) (.t 116)⟩, ⟨some 4, none, .mv (.t 117)⟩])
     .ret)
     .skip))
    (.seq (rg false [⟨some 4, none, .mv (.k (.i .i64 (-1)))⟩])
    .ret)))
    (.seq (rg false [⟨some 118, none, .mv (.t 5)⟩, ⟨some 119, none, .ld false 1 (.g 0)⟩, ⟨some 120, none, .bin .gtr (.t 118) (.t 119)⟩, ⟨some 121, none, .mv (.t 120)⟩, ⟨some 122, some (121, true), .mv (.t 10)⟩, ⟨some 123, some (121, true), .mv (.t 8)⟩, ⟨some 124, some (121, true), .bin .shr (.t 123) (.k (.i .u64 4))⟩, ⟨some 125, some (121, true), .bin .add (.k (.i .i64 4)) (.t 124)⟩, ⟨some 126, some (121, true), .bin .geq (.t 122) (.t 125)⟩, ⟨some 127, none, .pick (.t 121) (.t 126) (.k (.b false))⟩, ⟨some 128, none, .mv (.t 127)⟩, ⟨some 129, some (128, true), .mv (.t 8)⟩, ⟨some 130, some (128, true), .mv (.t 9)⟩, ⟨some 131, some (128, true), .bin .lss (.t 129) (.t 130)⟩, ⟨some 132, none, .pick (.t 128) (.t 131) (.k (.b false))⟩])
    (.cond (.t 132)
     (.seq (rg false [⟨some 133, none, .mv (.t 0)⟩, ⟨some 134, none, .mv (.t 8)⟩, ⟨some 135, none, .sls (.t 133) (some (.t 134)) none⟩, ⟨some 136, none, .mv (.t 1)⟩, ⟨some 137, none, .call fn_internal_bytealg_IndexRabinKarp_string [(.t 135), (.t 136)]⟩, ⟨some 13, none, .mv (.t 137)⟩])
     (.seq (.seq (rg false [⟨some 138, none, .mv (.t 13)⟩, ⟨some 139, none, .bin .lss (.t 138) (.k (.i .i64 0))⟩])
     (.cond (.t 139)
      (.seq (rg false [⟨some 4, none, .mv (.k (.i .i64 (-1)))⟩])
      .ret)
      .skip))
     (.seq (rg false [⟨some 140, none, .mv (.t 8)⟩, ⟨some 141, none, .mv (.t 13)⟩, ⟨some 142, none, .bin .add (.t 140) (.t 141)⟩, ⟨some 4, none, .mv (.t 142)⟩])
     .ret)))
     .skip))))))))))
noncomputable def c_internal_stringslite_Index : AFn := ⟨false, 2, 143, [.tmp 4],
  (.seq (rg false [⟨some 4, none, .mv (.k (.i .i64 0))⟩])
  (.seq (rg false [⟨some 14, none, .mv (.t 1)⟩, ⟨some 15, none, .lens (.t 14)⟩, ⟨some 5, none, .mv (.t 15)⟩])
  (.seq (.blk 0
   (.seq (rg false [⟨some 17, none, .mv (.t 5)⟩, ⟨some 18, none, .bin .eql (.t 17) (.k (.i .i64 0))⟩, ⟨some 19, none, .mv (.t 18)⟩, ⟨some 20, some (19, false), .mv (.t 1)⟩, ⟨some 21, some (19, false), .mv (.t 0)⟩, ⟨some 22, some (19, false), .bin .eql (.t 20) (.t 21)⟩, ⟨some 23, none, .pick (.t 19) (.k (.b true)) (.t 22)⟩, ⟨some 16, none, .mv (.t 23)⟩])
   (.cond (.t 16)
    (.seq (rg false [⟨some 4, none, .mv (.k (.i .i64 0))⟩])
    .ret)
    (.seq (rg false [⟨some 25, none, .mv (.t 5)⟩, ⟨some 26, none, .bin .eql (.t 25) (.k (.i .i64 1))⟩, ⟨some 24, none, .mv (.t 26)⟩])
    (.cond (.t 24)
     (.seq (rg false [⟨some 27, none, .mv (.t 0)⟩, ⟨some 28, none, .mv (.t 1)⟩, ⟨some 29, none, .ixs (.t 28) (.k (.i .i64 0))⟩, ⟨some 30, none, .call fn_internal_stringslite_IndexByte [(.t 27), (.t 29)]⟩, ⟨some 4, none, .mv (.t 30)⟩])
     .ret)
     (.seq (rg false [⟨some 32, none, .mv (.t 5)⟩, ⟨some 33, none, .mv (.t 0)⟩, ⟨some 34, none, .lens (.t 33)⟩, ⟨some 35, none, .bin .geq (.t 32) (.t 34)⟩, ⟨some 31, none, .mv (.t 35)⟩])
     (.cond (.t 31)
      (.seq (rg false [⟨some 4, none, .mv (.k (.i .i64 (-1)))⟩])
      .ret)
      (.seq (rg false [⟨some 37, none, .mv (.t 5)⟩, ⟨some 38, none, .ld false 1 (.g 0)⟩, ⟨some 39, none, .bin .leq (.t 37) (.t 38)⟩, ⟨some 40, none, .mv (.t 39)⟩, ⟨some 41, some (40, true), .mv (.t 0)⟩, ⟨some 42, some (40, true), .lens (.t 41)⟩, ⟨some 43, some (40, true), .bin .leq (.t 42) (.k (.i .i64 64))⟩, ⟨some 44, none, .pick (.t 40) (.t 43) (.k (.b false))⟩, ⟨some 36, none, .mv (.t 44)⟩])
      (.cond (.t 36)
       (.seq (rg false [⟨some 45, none, .mv (.t 0)⟩, ⟨some 46, none, .mv (.t 1)⟩, ⟨some 47, none, .call fn_internal_bytealg_IndexString [(.t 45), (.t 46)]⟩, ⟨some 4, none, .mv (.t 47)⟩])
       .ret)
       .skip)))))))))
  (.seq (rg false [⟨some 48, none, .mv (.t 1)⟩, ⟨some 49, none, .ixs (.t 48) (.k (.i .i64 0))⟩, ⟨some 6, none, .mv (.t 49)⟩])
  (.seq (rg false [⟨some 50, none, .mv (.t 1)⟩, ⟨some 51, none, .ixs (.t 50) (.k (.i .i64 1))⟩, ⟨some 7, none, .mv (.t 51)⟩])
  (.seq (rg false [⟨some 8, none, .mv (.k (.i .i64 0))⟩])
  (.seq (rg false [⟨some 52, none, .mv (.t 0)⟩, ⟨some 53, none, .lens (.t 52)⟩, ⟨some 54, none, .mv (.t 5)⟩, ⟨some 55, none, .bin .sub (.t 53) (.t 54)⟩, ⟨some 56, none, .bin .add (.t 55) (.k (.i .i64 1))⟩, ⟨some 9, none, .mv (.t 56)⟩])
  (.seq (rg false [⟨some 10, none, .mv (.k (.i .i64 0))⟩])
  (.seq (.blk 1
   (.loop [0, 1, 5, 6, 7, 8, 9, 10] c_internal_stringslite_Index_l0))
  (.seq (rg false [⟨some 4, none, .mv (.k (.i .i64 (-1)))⟩])
  .ret))))))))))⟩
noncomputable def c_strings_IndexRune_l0 : AC :=
  (.seq (rg false [⟨some 176, none, .nxt (.t 175)⟩, ⟨some 177, none, .ext (.t 176) 0⟩])
  (.seq (.cond (.t 177)
   .skip
   (.exit 9))
  (.blk 10
   (.seq (rg false [⟨some 178, none, .ext (.t 176) 1⟩, ⟨some 179, none, .ext (.t 176) 2⟩, ⟨some 5, none, .mv (.t 178)⟩, ⟨some 6, none, .mv (.t 179)⟩])
   (.seq (rg false [⟨some 180, none, .mv (.t 6)⟩, ⟨some 181, none, .bin .eql (.t 180) (.k (.i .i32 65533))⟩])
   (.cond (.t 181)
    (.seq (rg false [⟨some 182, none, .mv (.t 5)⟩, ⟨some 4, none, .mv (.t 182)⟩])
    .ret)
    .skip))))))
noncomputable def c_strings_IndexRune_l1 : AC :=
  (.seq (.seq (rg false [⟨some 48, none, .mv (.t 12)⟩, ⟨some 49, none, .mv (.t 7)⟩, ⟨some 50, none, .lens (.t 49)⟩, ⟨some 51, none, .bin .lss (.t 48) (.t 50)⟩])
  (.cond (.t 51)
   .skip
   (.exit 3)))
  (.seq (.blk 4
   (.seq (rg true [⟨some 54, none, .mv (.t 0)⟩, ⟨some 55, none, .mv (.t 9)⟩, ⟨some 56, none, .mv (.t 12)⟩, ⟨some 57, none, .bin .sub (.t 55) (.t 56)⟩, ⟨some 58, none, .ixs (.t 54) (.t 57)⟩, ⟨some 59, none, .mv (.t 7)⟩, ⟨some 60, none, .mv (.t 8)⟩, ⟨some 61, none, .mv (.t 12)⟩, ⟨some 62, none, .bin .sub (.t 60) (.t 61)⟩, ⟨some 63, none, .ixs (.t 59) (.t 62)⟩, ⟨some 64, none, .bin .neq (.t 58) (.t 63)⟩])
   (.cond (.t 64)
    .stop
    .skip)))
  (rg false [⟨some 52, none, .mv (.t 12)⟩, ⟨some 53, none, .bin .add (.t 52) (.k (.i .i64 1))⟩, ⟨some 12, none, .mv (.t 53)⟩])))
noncomputable def c_strings_IndexRune_l2 : AC :=
  (.seq (.seq (rg false [⟨some 23, none, .mv (.t 9)⟩, ⟨some 24, none, .mv (.t 0)⟩, ⟨some 25, none, .lens (.t 24)⟩, ⟨some 26, none, .bin .lss (.t 23) (.t 25)⟩])
  (.cond (.t 26)
   .skip
   (.exit 1)))
  (.blk 2
   (.scope (.seq (.seq (rg true [⟨some 27, none, .mv (.t 0)⟩, ⟨some 28, none, .mv (.t 9)⟩, ⟨some 29, none, .ixs (.t 27) (.t 28)⟩, ⟨some 30, none, .mv (.t 7)⟩, ⟨some 31, none, .mv (.t 8)⟩, ⟨some 32, none, .ixs (.t 30) (.t 31)⟩, ⟨some 33, none, .bin .neq (.t 29) (.t 32)⟩])
   (.cond (.t 33)
    (.seq (rg true [⟨some 34, none, .mv (.t 0)⟩, ⟨some 35, none, .mv (.t 9)⟩, ⟨some 36, none, .bin .add (.t 35) (.k (.i .i64 1))⟩, ⟨some 37, none, .sls (.t 34) (some (.t 36)) none⟩, ⟨some 38, none, .mv (.t 7)⟩, ⟨some 39, none, .mv (.t 8)⟩, ⟨some 40, none, .ixs (.t 38) (.t 39)⟩, ⟨some 41, none, .call fn_strings_IndexByte [(.t 37), (.t 40)]⟩, ⟨some 11, none, .mv (.t 41)⟩])
    (.seq (.seq (rg false [⟨some 42, none, .mv (.t 11)⟩, ⟨some 43, none, .bin .lss (.t 42) (.k (.i .i64 0))⟩])
    (.cond (.t 43)
     (.seq (rg false [⟨some 4, none, .mv (.k (.i .i64 (-1)))⟩])
     .ret)
     .skip))
    (rg false [⟨some 44, none, .mv (.t 9)⟩, ⟨some 45, none, .mv (.t 11)⟩, ⟨some 46, none, .bin .add (.t 45) (.k (.i .i64 1))⟩, ⟨some 47, none, .bin .add (.t 44) (.t 46)⟩, ⟨some 9, none, .mv (.t 47)⟩])))
    .skip))
   (.seq (.seq (rg false [⟨some 12, none, .mv (.k (.i .i64 1))⟩])
   (.blk 3
    (.loop [0, 7, 8, 9, 12] c_strings_IndexRune_l1)))
   (.seq (.seq (rg false [⟨some 65, none, .mv (.t 9)⟩, ⟨some 66, none, .mv (.t 8)⟩, ⟨some 67, none, .bin .sub (.t 65) (.t 66)⟩, ⟨some 4, none, .mv (.t 67)⟩])
   .ret)
   (.seq .skip
   (.seq (rg false [⟨some 68, none, .mv (.t 10)⟩, ⟨some 69, none, .bin .add (.t 68) (.k (.i .i64 1))⟩, ⟨some 10, none, .mv (.t 69)⟩])
   (.seq (rg false [⟨some 70, none, .mv (.t 9)⟩, ⟨some 71, none, .bin .add (.t 70) (.k (.i .i64 1))⟩, ⟨some 9, none, .mv (.t 71)⟩])
   (.seq (rg false [⟨some 72, none, .mv (.k (.b true))⟩, ⟨some 73, some (72, true), .mv (.t 10)⟩, ⟨some 74, some (72, true), .mv (.t 9)⟩, ⟨some 75, some (72, true), .call fn_internal_bytealg_Cutover [(.t 74)]⟩, ⟨some 76, some (72, true), .bin .gtr (.t 73) (.t 75)⟩, ⟨some 77, none, .pick (.t 72) (.t 76) (.k (.b false))⟩, ⟨some 78, none, .mv (.t 77)⟩, ⟨some 79, some (78, true), .mv (.t 9)⟩, ⟨some 80, some (78, true), .mv (.t 0)⟩, ⟨some 81, some (78, true), .lens (.t 80)⟩, ⟨some 82, some (78, true), .bin .lss (.t 79) (.t 81)⟩, ⟨some 83, none, .pick (.t 78) (.t 82) (.k (.b false))⟩, ⟨some 84, none, .mv (.t 83)⟩, ⟨some 85, some (84, false), .mv (.k (.b false))⟩, ⟨some 86, some (85, true), .mv (.t 10)⟩, ⟨some 87, some (85, true), .mv (.t 9)⟩, ⟨some 88, some (85, true), .bin .shr (.t 87) (.k (.i .u64 4))⟩, ⟨some 89, some (85, true), .bin .add (.k (.i .i64 4)) (.t 88)⟩, ⟨some 90, some (85, true), .bin .geq (.t 86) (.t 89)⟩, ⟨some 91, some (84, false), .pick (.t 85) (.t 90) (.k (.b false))⟩, ⟨some 92, some (84, false), .mv (.t 91)⟩, ⟨some 93, some (92, true), .mv (.t 9)⟩, ⟨some 94, some (92, true), .mv (.t 0)⟩, ⟨some 95, some (92, true), .lens (.t 94)⟩, ⟨some 96, some (92, true), .bin .lss (.t 93) (.t 95)⟩, ⟨some 97, some (84, false), .pick (.t 92) (.t 96) (.k (.b false))⟩, ⟨some 98, none, .pick (.t 84) (.k (.b true)) (.t 97)⟩])
   (.cond (.t 98)
    .stop
    .skip)))))))))))
noncomputable def c_strings_IndexRune_l3 : AC :=
  (.seq (.seq (rg false [⟨some 140, none, .mv (.t 16)⟩, ⟨some 141, none, .mv (.t 7)⟩, ⟨some 142, none, .lens (.t 141)⟩, ⟨some 143, none, .bin .lss (.t 140) (.t 142)⟩])
  (.cond (.t 143)
   .skip
   (.exit 7)))
  (.seq (.blk 8
   (.seq (rg true [⟨some 146, none, .mv (.t 0)⟩, ⟨some 147, none, .mv (.t 9)⟩, ⟨some 148, none, .mv (.t 16)⟩, ⟨some 149, none, .bin .sub (.t 147) (.t 148)⟩, ⟨some 150, none, .ixs (.t 146) (.t 149)⟩, ⟨some 151, none, .mv (.t 7)⟩, ⟨some 152, none, .mv (.t 8)⟩, ⟨some 153, none, .mv (.t 16)⟩, ⟨some 154, none, .bin .sub (.t 152) (.t 153)⟩, ⟨some 155, none, .ixs (.t 151) (.t 154)⟩, ⟨some 156, none, .bin .neq (.t 150) (.t 155)⟩])
   (.cond (.t 156)
    (.exit 6)
    .skip)))
  (rg false [⟨some 144, none, .mv (.t 16)⟩, ⟨some 145, none, .bin .add (.t 144) (.k (.i .i64 1))⟩, ⟨some 16, none, .mv (.t 145)⟩])))
noncomputable def c_strings_IndexRune_l4 : AC :=
  (.seq (.seq (rg false [⟨some 121, none, .mv (.t 9)⟩, ⟨some 122, none, .mv (.t 0)⟩, ⟨some 123, none, .lens (.t 122)⟩, ⟨some 124, none, .bin .lss (.t 121) (.t 123)⟩])
  (.cond (.t 124)
   .skip
   (.exit 5)))
  (.seq (.blk 6
   (.seq (rg false [⟨some 127, none, .mv (.t 0)⟩, ⟨some 128, none, .mv (.t 9)⟩, ⟨some 129, none, .ixs (.t 127) (.t 128)⟩, ⟨some 130, none, .mv (.t 14)⟩, ⟨some 131, none, .bin .eql (.t 129) (.t 130)⟩, ⟨some 132, none, .mv (.t 131)⟩, ⟨some 133, some (132, true), .mv (.t 0)⟩, ⟨some 134, some (132, true), .mv (.t 9)⟩, ⟨some 135, some (132, true), .bin .sub (.t 134) (.k (.i .i64 1))⟩, ⟨some 136, some (132, true), .ixs (.t 133) (.t 135)⟩, ⟨some 137, some (132, true), .mv (.t 15)⟩, ⟨some 138, some (132, true), .bin .eql (.t 136) (.t 137)⟩, ⟨some 139, none, .pick (.t 132) (.t 138) (.k (.b false))⟩])
   (.cond (.t 139)
    (.seq (.seq (rg false [⟨some 16, none, .mv (.k (.i .i64 2))⟩])
    (.blk 7
     (.loop [0, 7, 8, 9, 14, 15, 16] c_strings_IndexRune_l3)))
    (.seq (rg false [⟨some 157, none, .mv (.t 9)⟩, ⟨some 158, none, .mv (.t 8)⟩, ⟨some 159, none, .bin .sub (.t 157) (.t 158)⟩, ⟨some 4, none, .mv (.t 159)⟩])
    .ret))
    .skip)))
  (rg false [⟨some 125, none, .mv (.t 9)⟩, ⟨some 126, none, .bin .add (.t 125) (.k (.i .i64 1))⟩, ⟨some 9, none, .mv (.t 126)⟩])))
noncomputable def c_strings_IndexRune : AFn := ⟨false, 2, 187, [.tmp 4],
  (.seq (rg false [⟨some 4, none, .mv (.k (.i .i64 0))⟩])
  (.blk 0
   (.seq (rg false [⟨some 161, none, .mv (.t 1)⟩, ⟨some 162, none, .bin .leq (.k (.i .i32 0)) (.t 161)⟩, ⟨some 163, none, .mv (.t 162)⟩, ⟨some 164, some (163, true), .mv (.t 1)⟩, ⟨some 165, some (163, true), .bin .lss (.t 164) (.k (.i .i32 128))⟩, ⟨some 166, none, .pick (.t 163) (.t 165) (.k (.b false))⟩, ⟨some 160, none, .mv (.t 166)⟩])
   (.cond (.t 160)
    (.seq (rg false [⟨some 167, none, .mv (.t 0)⟩, ⟨some 168, none, .mv (.t 1)⟩, ⟨some 169, none, .cvi .u8 (.t 168)⟩, ⟨some 170, none, .call fn_strings_IndexByte [(.t 167), (.t 169)]⟩, ⟨some 4, none, .mv (.t 170)⟩])
    .ret)
    (.seq (rg false [⟨some 172, none, .mv (.t 1)⟩, ⟨some 173, none, .bin .eql (.t 172) (.k (.i .i32 65533))⟩, ⟨some 171, none, .mv (.t 173)⟩])
    (.cond (.t 171)
     (.seq (.seq (rg false [⟨some 174, none, .mv (.t 0)⟩, ⟨some 175, none, .rng (.t 174)⟩])
     (.blk 9
      (.loop [175] c_strings_IndexRune_l0)))
     (.seq (rg false [⟨some 4, none, .mv (.k (.i .i64 (-1)))⟩])
     .ret))
     (.seq (rg false [⟨some 184, none, .mv (.t 1)⟩, ⟨some 185, none, .call fn_unicode_utf8_ValidRune [(.t 184)]⟩, ⟨some 186, none, .un .not (.t 185)⟩, ⟨some 183, none, .mv (.t 186)⟩])
     (.cond (.t 183)
      (.seq (rg false [⟨some 4, none, .mv (.k (.i .i64 (-1)))⟩])
      .ret)
      (.scope (.seq (rg false [⟨some 17, none, .mv (.t 1)⟩, ⟨some 18, none, .cvc (.t 17)⟩, ⟨some 7, none, .mv (.t 18)⟩])
      (.seq (rg false [⟨some 19, none, .mv (.t 7)⟩, ⟨some 20, none, .lens (.t 19)⟩, ⟨some 21, none, .bin .sub (.t 20) (.k (.i .i64 1))⟩, ⟨some 8, none, .mv (.t 21)⟩])
      (.seq (rg false [⟨some 22, none, .mv (.t 8)⟩, ⟨some 9, none, .mv (.t 22)⟩])
      (.seq (rg false [⟨some 10, none, .mv (.k (.i .i64 0))⟩])
      (.seq (.blk 1
       (.loop [0, 7, 8, 9] c_strings_IndexRune_l2))
      (.seq (.seq (rg false [⟨some 4, none, .mv (.k (.i .i64 (-1)))⟩])
      .ret)
      (.seq .skip
      (.seq (.cond (.k (.b true))
       (.seq (rg false [⟨some 99, none, .mv (.t 0)⟩, ⟨some 100, none, .mv (.t 9)⟩, ⟨some 101, none, .mv (.t 8)⟩, ⟨some 102, none, .bin .sub (.t 100) (.t 101)⟩, ⟨some 103, none, .sls (.t 99) (some (.t 102)) none⟩, ⟨some 104, none, .mv (.t 1)⟩, ⟨some 105, none, .cvc (.t 104)⟩, ⟨some 106, none, .call fn_internal_bytealg_IndexString [(.t 103), (.t 105)]⟩, ⟨some 13, none, .mv (.t 106)⟩])
       (.seq (rg false [⟨some 107, none, .mv (.t 13)⟩, ⟨some 108, none, .bin .geq (.t 107) (.k (.i .i64 0))⟩])
       (.cond (.t 108)
        (.seq (rg false [⟨some 109, none, .mv (.t 9)⟩, ⟨some 110, none, .mv (.t 13)⟩, ⟨some 111, none, .bin .add (.t 109) (.t 110)⟩, ⟨some 112, none, .mv (.t 8)⟩, ⟨some 113, none, .bin .sub (.t 111) (.t 112)⟩, ⟨some 4, none, .mv (.t 113)⟩])
        .ret)
        .skip)))
       (.scope (.seq (rg false [⟨some 114, none, .mv (.t 7)⟩, ⟨some 115, none, .mv (.t 8)⟩, ⟨some 116, none, .ixs (.t 114) (.t 115)⟩, ⟨some 14, none, .mv (.t 116)⟩])
       (.seq (rg false [⟨some 117, none, .mv (.t 7)⟩, ⟨some 118, none, .mv (.t 8)⟩, ⟨some 119, none, .bin .sub (.t 118) (.k (.i .i64 1))⟩, ⟨some 120, none, .ixs (.t 117) (.t 119)⟩, ⟨some 15, none, .mv (.t 120)⟩])
       (.seq .skip
       (.blk 5
        (.loop [0, 7, 8, 9, 14, 15] c_strings_IndexRune_l4)))))))
      (.seq (rg false [⟨some 4, none, .mv (.k (.i .i64 (-1)))⟩])
      .ret))))))))))))))))))⟩
noncomputable def c_strings_shouldUseASCIISet : AFn := ⟨false, 1, 5, [.tmp 2],
  (.seq (rg false [⟨some 2, none, .mv (.k (.b false))⟩])
  (.seq (rg false [⟨some 3, none, .mv (.t 0)⟩, ⟨some 4, none, .bin .gtr (.t 3) (.k (.i .i64 8))⟩, ⟨some 2, none, .mv (.t 4)⟩])
  .ret))⟩
noncomputable def c_strings_makeASCIISet_l0 : AC :=
  (.seq (.seq (rg false [⟨some 6, none, .mv (.t 4)⟩, ⟨some 7, none, .mv (.t 0)⟩, ⟨some 8, none, .lens (.t 7)⟩, ⟨some 9, none, .bin .lss (.t 6) (.t 8)⟩])
  (.cond (.t 9)
   .skip
   (.exit 0)))
  (.seq (.blk 1
   (.seq (rg false [⟨some 12, none, .mv (.t 0)⟩, ⟨some 13, none, .mv (.t 4)⟩, ⟨some 14, none, .ixs (.t 12) (.t 13)⟩, ⟨some 5, none, .mv (.t 14)⟩])
   (.seq (.seq (rg false [⟨some 15, none, .mv (.t 5)⟩, ⟨some 16, none, .bin .geq (.t 15) (.k (.i .u8 128))⟩])
   (.cond (.t 16)
    (.seq (rg false [⟨some 17, none, .ld true 256 (.t 2)⟩, ⟨none, none, .st 256 (.t 2) (.t 17)⟩, ⟨some 3, none, .mv (.k (.b false))⟩])
    .ret)
    .skip))
   (rg false [⟨some 18, none, .mv (.t 5)⟩, ⟨some 19, none, .iaa 256 1 (.t 2) (.t 18)⟩, ⟨none, none, .st 1 (.t 19) (.k (.b true))⟩]))))
  (rg false [⟨some 10, none, .mv (.t 4)⟩, ⟨some 11, none, .bin .add (.t 10) (.k (.i .i64 1))⟩, ⟨some 4, none, .mv (.t 11)⟩])))
noncomputable def c_strings_makeASCIISet : AFn := ⟨false, 1, 21, [.cell true 256 2, .tmp 3],
  (.seq (rg false [⟨some 2, none, .alloc 120 (T.arr 256 T.b).zc⟩, ⟨some 3, none, .mv (.k (.b false))⟩])
  (.seq (.seq (rg false [⟨some 4, none, .mv (.k (.i .i64 0))⟩])
  (.blk 0
   (.loop [0, 2, 4] c_strings_makeASCIISet_l0)))
  (.seq (rg false [⟨some 20, none, .ld true 256 (.t 2)⟩, ⟨none, none, .st 256 (.t 2) (.t 20)⟩, ⟨some 3, none, .mv (.k (.b true))⟩])
  .ret)))⟩
noncomputable def c_p_strings_asciiSet_contains : AFn := ⟨false, 2, 10, [.tmp 4],
  (.seq (rg false [⟨some 4, none, .mv (.k (.b false))⟩])
  (.seq (rg false [⟨some 5, none, .mv (.t 0)⟩, ⟨some 6, none, .mv (.t 1)⟩, ⟨some 7, none, .nilc (.t 5)⟩, ⟨some 8, none, .iaa 256 1 (.t 7) (.t 6)⟩, ⟨some 9, none, .ld false 1 (.t 8)⟩, ⟨some 4, none, .mv (.t 9)⟩])
  .ret))⟩
noncomputable def c_unicode_utf8_decodeRuneInStringSlow : AFn := ⟨false, 1, 117, [.tmp 2, .tmp 3],
  (.seq (rg false [⟨some 2, none, .mv (.k (.i .i32 0))⟩, ⟨some 3, none, .mv (.k (.i .i64 0))⟩])
  (.seq (rg false [⟨some 13, none, .mv (.t 0)⟩, ⟨some 14, none, .lens (.t 13)⟩, ⟨some 4, none, .mv (.t 14)⟩])
  (.seq (.seq (rg false [⟨some 15, none, .mv (.t 4)⟩, ⟨some 16, none, .bin .lss (.t 15) (.k (.i .i64 1))⟩])
  (.cond (.t 16)
   (.seq (rg false [⟨some 2, none, .mv (.k (.i .i32 65533))⟩, ⟨some 3, none, .mv (.k (.i .i64 0))⟩])
   .ret)
   .skip))
  (.seq (rg false [⟨some 17, none, .mv (.t 0)⟩, ⟨some 18, none, .ixs (.t 17) (.k (.i .i64 0))⟩, ⟨some 5, none, .mv (.t 18)⟩])
  (.seq (rg false [⟨some 19, none, .mv (.t 5)⟩, ⟨some 20, none, .iaa 256 1 (.g 1) (.t 19)⟩, ⟨some 21, none, .ld false 1 (.t 20)⟩, ⟨some 6, none, .mv (.t 21)⟩])
  (.seq (.seq (rg false [⟨some 22, none, .mv (.t 6)⟩, ⟨some 23, none, .bin .geq (.t 22) (.k (.i .u8 240))⟩])
  (.cond (.t 23)
   (.seq (rg false [⟨some 24, none, .mv (.t 6)⟩, ⟨some 25, none, .cvi .i32 (.t 24)⟩, ⟨some 26, none, .bin .shl (.t 25) (.k (.i .u64 31))⟩, ⟨some 27, none, .bin .shr (.t 26) (.k (.i .u64 31))⟩, ⟨some 7, none, .mv (.t 27)⟩])
   (.seq (rg false [⟨some 28, none, .mv (.t 0)⟩, ⟨some 29, none, .ixs (.t 28) (.k (.i .i64 0))⟩, ⟨some 30, none, .cvi .i32 (.t 29)⟩, ⟨some 31, none, .mv (.t 7)⟩, ⟨some 32, none, .bin .andNot (.t 30) (.t 31)⟩, ⟨some 33, none, .mv (.t 7)⟩, ⟨some 34, none, .bin .and (.k (.i .i32 65533)) (.t 33)⟩, ⟨some 35, none, .bin .or (.t 32) (.t 34)⟩, ⟨some 2, none, .mv (.t 35)⟩, ⟨some 3, none, .mv (.k (.i .i64 1))⟩])
   .ret))
   .skip))
  (.seq (rg false [⟨some 36, none, .mv (.t 6)⟩, ⟨some 37, none, .bin .and (.t 36) (.k (.i .u8 7))⟩, ⟨some 38, none, .cvi .i64 (.t 37)⟩, ⟨some 8, none, .mv (.t 38)⟩])
  (.seq (rg false [⟨some 39, none, .mv (.t 6)⟩, ⟨some 40, none, .bin .shr (.t 39) (.k (.i .u64 4))⟩, ⟨some 41, none, .iaa 16 2 (.g 2) (.t 40)⟩, ⟨some 42, none, .ld true 2 (.t 41)⟩, ⟨some 9, none, .alloc 146 T_unicode_utf8_acceptRange.zc⟩, ⟨none, none, .st 2 (.t 9) (.t 42)⟩])
  (.seq (.seq (rg false [⟨some 43, none, .mv (.t 4)⟩, ⟨some 44, none, .mv (.t 8)⟩, ⟨some 45, none, .bin .lss (.t 43) (.t 44)⟩])
  (.cond (.t 45)
   (.seq (rg false [⟨some 2, none, .mv (.k (.i .i32 65533))⟩, ⟨some 3, none, .mv (.k (.i .i64 1))⟩])
   .ret)
   .skip))
  (.seq (rg false [⟨some 46, none, .mv (.t 0)⟩, ⟨some 47, none, .ixs (.t 46) (.k (.i .i64 1))⟩, ⟨some 10, none, .mv (.t 47)⟩])
  (.seq (.seq (rg false [⟨some 48, none, .mv (.t 10)⟩, ⟨some 49, none, .fa 0 (.t 9)⟩, ⟨some 50, none, .ld false 1 (.t 49)⟩, ⟨some 51, none, .bin .lss (.t 48) (.t 50)⟩, ⟨some 52, none, .mv (.t 51)⟩, ⟨some 53, some (52, false), .fa 1 (.t 9)⟩, ⟨some 54, some (52, false), .ld false 1 (.t 53)⟩, ⟨some 55, some (52, false), .mv (.t 10)⟩, ⟨some 56, some (52, false), .bin .lss (.t 54) (.t 55)⟩, ⟨some 57, none, .pick (.t 52) (.k (.b true)) (.t 56)⟩])
  (.cond (.t 57)
   (.seq (rg false [⟨some 2, none, .mv (.k (.i .i32 65533))⟩, ⟨some 3, none, .mv (.k (.i .i64 1))⟩])
   .ret)
   .skip))
  (.seq (.seq (rg false [⟨some 58, none, .mv (.t 8)⟩, ⟨some 59, none, .bin .leq (.t 58) (.k (.i .i64 2))⟩])
  (.cond (.t 59)
   (.seq (rg false [⟨some 60, none, .mv (.t 5)⟩, ⟨some 61, none, .bin .and (.t 60) (.k (.i .u8 31))⟩, ⟨some 62, none, .cvi .i32 (.t 61)⟩, ⟨some 63, none, .bin .shl (.t 62) (.k (.i .u64 6))⟩, ⟨some 64, none, .mv (.t 10)⟩, ⟨some 65, none, .bin .and (.t 64) (.k (.i .u8 63))⟩, ⟨some 66, none, .cvi .i32 (.t 65)⟩, ⟨some 67, none, .bin .or (.t 63) (.t 66)⟩, ⟨some 2, none, .mv (.t 67)⟩, ⟨some 3, none, .mv (.k (.i .i64 2))⟩])
   .ret)
   .skip))
  (.seq (rg false [⟨some 68, none, .mv (.t 0)⟩, ⟨some 69, none, .ixs (.t 68) (.k (.i .i64 2))⟩, ⟨some 11, none, .mv (.t 69)⟩])
  (.seq (.seq (rg false [⟨some 70, none, .mv (.t 11)⟩, ⟨some 71, none, .bin .lss (.t 70) (.k (.i .u8 128))⟩, ⟨some 72, none, .mv (.t 71)⟩, ⟨some 73, some (72, false), .mv (.t 11)⟩, ⟨some 74, some (72, false), .bin .lss (.k (.i .u8 191)) (.t 73)⟩, ⟨some 75, none, .pick (.t 72) (.k (.b true)) (.t 74)⟩])
  (.cond (.t 75)
   (.seq (rg false [⟨some 2, none, .mv (.k (.i .i32 65533))⟩, ⟨some 3, none, .mv (.k (.i .i64 1))⟩])
   .ret)
   .skip))
  (.seq (.seq (rg false [⟨some 76, none, .mv (.t 8)⟩, ⟨some 77, none, .bin .leq (.t 76) (.k (.i .i64 3))⟩])
  (.cond (.t 77)
   (.seq (rg false [⟨some 78, none, .mv (.t 5)⟩, ⟨some 79, none, .bin .and (.t 78) (.k (.i .u8 15))⟩, ⟨some 80, none, .cvi .i32 (.t 79)⟩, ⟨some 81, none, .bin .shl (.t 80) (.k (.i .u64 12))⟩, ⟨some 82, none, .mv (.t 10)⟩, ⟨some 83, none, .bin .and (.t 82) (.k (.i .u8 63))⟩, ⟨some 84, none, .cvi .i32 (.t 83)⟩, ⟨some 85, none, .bin .shl (.t 84) (.k (.i .u64 6))⟩, ⟨some 86, none, .bin .or (.t 81) (.t 85)⟩, ⟨some 87, none, .mv (.t 11)⟩, ⟨some 88, none, .bin .and (.t 87) (.k (.i .u8 63))⟩, ⟨some 89, none, .cvi .i32 (.t 88)⟩, ⟨some 90, none, .bin .or (.t 86) (.t 89)⟩, ⟨some 2, none, .mv (.t 90)⟩, ⟨some 3, none, .mv (.k (.i .i64 3))⟩])
   .ret)
   .skip))
  (.seq (rg false [⟨some 91, none, .mv (.t 0)⟩, ⟨some 92, none, .ixs (.t 91) (.k (.i .i64 3))⟩, ⟨some 12, none, .mv (.t 92)⟩])
  (.seq (.seq (rg false [⟨some 93, none, .mv (.t 12)⟩, ⟨some 94, none, .bin .lss (.t 93) (.k (.i .u8 128))⟩, ⟨some 95, none, .mv (.t 94)⟩, ⟨some 96, some (95, false), .mv (.t 12)⟩, ⟨some 97, some (95, false), .bin .lss (.k (.i .u8 191)) (.t 96)⟩, ⟨some 98, none, .pick (.t 95) (.k (.b true)) (.t 97)⟩])
  (.cond (.t 98)
   (.seq (rg false [⟨some 2, none, .mv (.k (.i .i32 65533))⟩, ⟨some 3, none, .mv (.k (.i .i64 1))⟩])
   .ret)
   .skip))
  (.seq (rg false [⟨some 99, none, .mv (.t 5)⟩, ⟨some 100, none, .bin .and (.t 99) (.k (.i .u8 7))⟩, ⟨some 101, none, .cvi .i32 (.t 100)⟩, ⟨some 102, none, .bin .shl (.t 101) (.k (.i .u64 18))⟩, ⟨some 103, none, .mv (.t 10)⟩, ⟨some 104, none, .bin .and (.t 103) (.k (.i .u8 63))⟩, ⟨some 105, none, .cvi .i32 (.t 104)⟩, ⟨some 106, none, .bin .shl (.t 105) (.k (.i .u64 12))⟩, ⟨some 107, none, .bin .or (.t 102) (.t 106)⟩, ⟨some 108, none, .mv (.t 11)⟩, ⟨some 109, none, .bin .and (.t 108) (.k (.i .u8 63))⟩, ⟨some 110, none, .cvi .i32 (.t 109)⟩, ⟨some 111, none, .bin .shl (.t 110) (.k (.i .u64 6))⟩, ⟨some 112, none, .bin .or (.t 107) (.t 111)⟩, ⟨some 113, none, .mv (.t 12)⟩, ⟨some 114, none, .bin .and (.t 113) (.k (.i .u8 63))⟩, ⟨some 115, none, .cvi .i32 (.t 114)⟩, ⟨some 116, none, .bin .or (.t 112) (.t 115)⟩, ⟨some 2, none, .mv (.t 116)⟩, ⟨some 3, none, .mv (.k (.i .i64 4))⟩])
  .ret))))))))))))))))))⟩
noncomputable def c_internal_bytealg_Cutover : AFn := ⟨false, 1, 6, [.tmp 2],
  (.seq (rg false [⟨some 2, none, .mv (.k (.i .i64 0))⟩])
  (.seq (rg false [⟨some 3, none, .mv (.t 0)⟩, ⟨some 4, none, .bin .add (.t 3) (.k (.i .i64 16))⟩, ⟨some 5, none, .bin .quo (.t 4) (.k (.i .i64 8))⟩, ⟨some 2, none, .mv (.t 5)⟩])
  .ret))⟩
noncomputable def c_internal_bytealg_IndexRabinKarp_string_l0 : AC :=
  (.seq (.seq (rg false [⟨some 18, none, .mv (.t 9)⟩, ⟨some 19, none, .mv (.t 7)⟩, ⟨some 20, none, .bin .lss (.t 18) (.t 19)⟩])
  (.cond (.t 20)
   .skip
   (.exit 0)))
  (.seq (.blk 1
   (rg false [⟨some 23, none, .mv (.t 8)⟩, ⟨some 24, none, .bin .mul (.t 23) (.k (.i .u32 16777619))⟩, ⟨some 25, none, .mv (.t 0)⟩, ⟨some 26, none, .mv (.t 9)⟩, ⟨some 27, none, .ixs (.t 25) (.t 26)⟩, ⟨some 28, none, .cvi .u32 (.t 27)⟩, ⟨some 29, none, .bin .add (.t 24) (.t 28)⟩, ⟨some 8, none, .mv (.t 29)⟩]))
  (rg false [⟨some 21, none, .mv (.t 9)⟩, ⟨some 22, none, .bin .add (.t 21) (.k (.i .i64 1))⟩, ⟨some 9, none, .mv (.t 22)⟩])))
noncomputable def c_internal_bytealg_IndexRabinKarp_string_l1 : AC :=
  (.seq (.seq (rg false [⟨some 41, none, .mv (.t 10)⟩, ⟨some 42, none, .mv (.t 0)⟩, ⟨some 43, none, .lens (.t 42)⟩, ⟨some 44, none, .bin .lss (.t 41) (.t 43)⟩])
  (.cond (.t 44)
   .skip
   (.exit 2)))
  (.blk 3
   (.seq (rg false [⟨some 45, none, .mv (.t 8)⟩, ⟨some 46, none, .bin .mul (.t 45) (.k (.i .u32 16777619))⟩, ⟨some 8, none, .mv (.t 46)⟩])
   (.seq (rg false [⟨some 47, none, .mv (.t 8)⟩, ⟨some 48, none, .mv (.t 0)⟩, ⟨some 49, none, .mv (.t 10)⟩, ⟨some 50, none, .ixs (.t 48) (.t 49)⟩, ⟨some 51, none, .cvi .u32 (.t 50)⟩, ⟨some 52, none, .bin .add (.t 47) (.t 51)⟩, ⟨some 8, none, .mv (.t 52)⟩])
   (.seq (rg false [⟨some 53, none, .mv (.t 8)⟩, ⟨some 54, none, .mv (.t 6)⟩, ⟨some 55, none, .mv (.t 0)⟩, ⟨some 56, none, .mv (.t 10)⟩, ⟨some 57, none, .mv (.t 7)⟩, ⟨some 58, none, .bin .sub (.t 56) (.t 57)⟩, ⟨some 59, none, .ixs (.t 55) (.t 58)⟩, ⟨some 60, none, .cvi .u32 (.t 59)⟩, ⟨some 61, none, .bin .mul (.t 54) (.t 60)⟩, ⟨some 62, none, .bin .sub (.t 53) (.t 61)⟩, ⟨some 8, none, .mv (.t 62)⟩])
   (.seq (rg false [⟨some 63, none, .mv (.t 10)⟩, ⟨some 64, none, .bin .add (.t 63) (.k (.i .i64 1))⟩, ⟨some 10, none, .mv (.t 64)⟩])
   (.seq (rg false [⟨some 65, none, .mv (.t 8)⟩, ⟨some 66, none, .mv (.t 5)⟩, ⟨some 67, none, .bin .eql (.t 65) (.t 66)⟩, ⟨some 68, none, .mv (.t 67)⟩, ⟨some 69, some (68, true), .mv (.t 0)⟩, ⟨some 70, some (68, true), .mv (.t 10)⟩, ⟨some 71, some (68, true), .mv (.t 7)⟩, ⟨some 72, some (68, true), .bin .sub (.t 70) (.t 71)⟩, ⟨some 73, some (68, true), .mv (.t 10)⟩, ⟨some 74, some (68, true), .sls (.t 69) (some (.t 72)) (some (.t 73))⟩, ⟨some 75, some (68, true), .mv (.t 1)⟩, ⟨some 76, some (68, true), .bin .eql (.t 74) (.t 75)⟩, ⟨some 77, none, .pick (.t 68) (.t 76) (.k (.b false))⟩])
   (.cond (.t 77)
    (.seq (rg false [⟨some 78, none, .mv (.t 10)⟩, ⟨some 79, none, .mv (.t 7)⟩, ⟨some 80, none, .bin .sub (.t 78) (.t 79)⟩, ⟨some 4, none, .mv (.t 80)⟩])
    .ret)
    .skip))))))))
noncomputable def c_internal_bytealg_IndexRabinKarp_string : AFn := ⟨false, 2, 81, [.tmp 4],
  (.seq (rg false [⟨some 4, none, .mv (.k (.i .i64 0))⟩])
  (.seq (rg false [⟨some 12, none, .mv (.t 1)⟩, ⟨some 13, none, .call fn_internal_bytealg_hashStr_string [(.t 12)]⟩, ⟨some 11, none, .mv (.t 13)⟩, ⟨some 14, none, .ext (.t 11) 0⟩, ⟨some 15, none, .ext (.t 11) 1⟩, ⟨some 5, none, .mv (.t 14)⟩, ⟨some 6, none, .mv (.t 15)⟩])
  (.seq (rg false [⟨some 16, none, .mv (.t 1)⟩, ⟨some 17, none, .lens (.t 16)⟩, ⟨some 7, none, .mv (.t 17)⟩])
  (.seq (rg false [⟨some 8, none, .mv (.k (.i .u32 0))⟩])
  (.seq (.seq (rg false [⟨some 9, none, .mv (.k (.i .i64 0))⟩])
  (.blk 0
   (.loop [0, 1, 5, 6, 7, 8, 9] c_internal_bytealg_IndexRabinKarp_string_l0)))
  (.seq (.seq (rg false [⟨some 30, none, .mv (.t 8)⟩, ⟨some 31, none, .mv (.t 5)⟩, ⟨some 32, none, .bin .eql (.t 30) (.t 31)⟩, ⟨some 33, none, .mv (.t 32)⟩, ⟨some 34, some (33, true), .mv (.t 0)⟩, ⟨some 35, some (33, true), .mv (.t 7)⟩, ⟨some 36, some (33, true), .sls (.t 34) none (some (.t 35))⟩, ⟨some 37, some (33, true), .mv (.t 1)⟩, ⟨some 38, some (33, true), .bin .eql (.t 36) (.t 37)⟩, ⟨some 39, none, .pick (.t 33) (.t 38) (.k (.b false))⟩])
  (.cond (.t 39)
   (.seq (rg false [⟨some 4, none, .mv (.k (.i .i64 0))⟩])
   .ret)
   .skip))
  (.seq (.seq (rg false [⟨some 40, none, .mv (.t 7)⟩, ⟨some 10, none, .mv (.t 40)⟩])
  (.blk 2
   (.loop [0, 1, 5, 6, 7, 8, 10] c_internal_bytealg_IndexRabinKarp_string_l1)))
  (.seq (rg false [⟨some 4, none, .mv (.k (.i .i64 (-1)))⟩])
  .ret))))))))⟩
noncomputable def c_unicode_utf8_ValidRune : AFn := ⟨false, 1, 17, [.tmp 2],
  (.seq (rg false [⟨some 2, none, .mv (.k (.b false))⟩])
  (.seq (.blk 0
   (.seq (rg false [⟨some 4, none, .mv (.t 0)⟩, ⟨some 5, none, .bin .leq (.k (.i .i32 0)) (.t 4)⟩, ⟨some 6, none, .mv (.t 5)⟩, ⟨some 7, some (6, true), .mv (.t 0)⟩, ⟨some 8, some (6, true), .bin .lss (.t 7) (.k (.i .i32 55296))⟩, ⟨some 9, none, .pick (.t 6) (.t 8) (.k (.b false))⟩, ⟨some 3, none, .mv (.t 9)⟩])
   (.cond (.t 3)
    (.seq (rg false [⟨some 2, none, .mv (.k (.b true))⟩])
    .ret)
    (.seq (rg false [⟨some 11, none, .mv (.t 0)⟩, ⟨some 12, none, .bin .lss (.k (.i .i32 57343)) (.t 11)⟩, ⟨some 13, none, .mv (.t 12)⟩, ⟨some 14, some (13, true), .mv (.t 0)⟩, ⟨some 15, some (13, true), .bin .leq (.t 14) (.k (.i .i32 1114111))⟩, ⟨some 16, none, .pick (.t 13) (.t 15) (.k (.b false))⟩, ⟨some 10, none, .mv (.t 16)⟩])
    (.cond (.t 10)
     (.seq (rg false [⟨some 2, none, .mv (.k (.b true))⟩])
     .ret)
     .skip)))))
  (.seq (rg false [⟨some 2, none, .mv (.k (.b false))⟩])
  .ret)))⟩
noncomputable def c_internal_bytealg_hashStr_string_l0 : AC :=
  (.seq (.seq (rg false [⟨some 9, none, .mv (.t 5)⟩, ⟨some 10, none, .mv (.t 0)⟩, ⟨some 11, none, .lens (.t 10)⟩, ⟨some 12, none, .bin .lss (.t 9) (.t 11)⟩])
  (.cond (.t 12)
   .skip
   (.exit 0)))
  (.seq (.blk 1
   (rg false [⟨some 15, none, .mv (.t 4)⟩, ⟨some 16, none, .bin .mul (.t 15) (.k (.i .u32 16777619))⟩, ⟨some 17, none, .mv (.t 0)⟩, ⟨some 18, none, .mv (.t 5)⟩, ⟨some 19, none, .ixs (.t 17) (.t 18)⟩, ⟨some 20, none, .cvi .u32 (.t 19)⟩, ⟨some 21, none, .bin .add (.t 16) (.t 20)⟩, ⟨some 4, none, .mv (.t 21)⟩]))
  (rg false [⟨some 13, none, .mv (.t 5)⟩, ⟨some 14, none, .bin .add (.t 13) (.k (.i .i64 1))⟩, ⟨some 5, none, .mv (.t 14)⟩])))
noncomputable def c_internal_bytealg_hashStr_string_l1 : AC :=
  (.seq (.seq (rg false [⟨some 24, none, .mv (.t 8)⟩, ⟨some 25, none, .bin .gtr (.t 24) (.k (.i .i64 0))⟩])
  (.cond (.t 25)
   .skip
   (.exit 2)))
  (.seq (.blk 3
   (.seq (.seq (rg false [⟨some 28, none, .mv (.t 8)⟩, ⟨some 29, none, .bin .and (.t 28) (.k (.i .i64 1))⟩, ⟨some 30, none, .bin .neq (.t 29) (.k (.i .i64 0))⟩])
   (.cond (.t 30)
    (rg false [⟨some 31, none, .mv (.t 6)⟩, ⟨some 32, none, .mv (.t 7)⟩, ⟨some 33, none, .bin .mul (.t 31) (.t 32)⟩, ⟨some 6, none, .mv (.t 33)⟩])
    .skip))
   (rg false [⟨some 34, none, .mv (.t 7)⟩, ⟨some 35, none, .mv (.t 7)⟩, ⟨some 36, none, .bin .mul (.t 34) (.t 35)⟩, ⟨some 7, none, .mv (.t 36)⟩])))
  (rg false [⟨some 26, none, .mv (.t 8)⟩, ⟨some 27, none, .bin .shr (.t 26) (.k (.i .u64 1))⟩, ⟨some 8, none, .mv (.t 27)⟩])))
noncomputable def c_internal_bytealg_hashStr_string : AFn := ⟨false, 1, 39, [.tmp 2, .tmp 3],
  (.seq (rg false [⟨some 2, none, .mv (.k (.i .u32 0))⟩, ⟨some 3, none, .mv (.k (.i .u32 0))⟩])
  (.seq (rg false [⟨some 4, none, .mv (.k (.i .u32 0))⟩])
  (.seq (.seq (rg false [⟨some 5, none, .mv (.k (.i .i64 0))⟩])
  (.blk 0
   (.loop [0, 4, 5] c_internal_bytealg_hashStr_string_l0)))
  (.seq (rg false [⟨some 6, none, .mv (.k (.i .u32 1))⟩, ⟨some 7, none, .mv (.k (.i .u32 16777619))⟩])
  (.seq (.seq (rg false [⟨some 22, none, .mv (.t 0)⟩, ⟨some 23, none, .lens (.t 22)⟩, ⟨some 8, none, .mv (.t 23)⟩])
  (.blk 2
   (.loop [4, 6, 7, 8] c_internal_bytealg_hashStr_string_l1)))
  (.seq (rg false [⟨some 37, none, .mv (.t 4)⟩, ⟨some 38, none, .mv (.t 6)⟩, ⟨some 2, none, .mv (.t 37)⟩, ⟨some 3, none, .mv (.t 38)⟩])
  .ret))))))⟩
noncomputable def fnl : List (Nat × AFn) := [(fn_l06_LinesSplit, c_l06_LinesSplit),
  (fn_l06_LinesJoin, c_l06_LinesJoin),
  (fn_l36_PairlineBlocks, c_l36_PairlineBlocks),
  (fn_l36_PairlineReads, c_l36_PairlineReads),
  (fn_l36_PairlineMany, c_l36_PairlineMany),
  (fn_l06_alive, c_l06_alive),
  (fn_r06_Loose, c_r06_Loose),
  (fn_lines_Split, c_lines_Split),
  (fn_r06_Same, c_r06_Same),
  (fn_lines_Loose, c_lines_Loose),
  (fn_lines_Join, c_lines_Join),
  (fn_r06_Large, c_r06_Large),
  (fn_r06_Join, c_r06_Join),
  (fn_r06_Parts, c_r06_Parts),
  (fn_l36_alive, c_l36_alive),
  (fn_pairline_Block, c_pairline_Block),
  (fn_r36_Block, c_r36_Block),
  (fn_pairline_Read, c_pairline_Read),
  (fn_l36_alike, c_l36_alike),
  (fn_r36_Read, c_r36_Read),
  (fn_lines_Parts, c_lines_Parts),
  (fn_strings_HasSuffix, c_strings_HasSuffix),
  (fn_strings_Split, c_strings_Split),
  (fn_strings_TrimSuffix, c_strings_TrimSuffix),
  (fn_p_strings_Builder_WriteString, c_p_strings_Builder_WriteString),
  (fn_p_strings_Builder_String, c_p_strings_Builder_String),
  (fn_pairline_Text, c_pairline_Text),
  (fn_r36_Text, c_r36_Text),
  (fn_slices_Index_string, c_slices_Index_string),
  (fn_pairline_Parse, c_pairline_Parse),
  (fn_r36_Parse, c_r36_Parse),
  (fn_lines_Cut, c_lines_Cut),
  (fn_internal_stringslite_HasSuffix, c_internal_stringslite_HasSuffix),
  (fn_strings_genSplit, c_strings_genSplit),
  (fn_internal_stringslite_TrimSuffix, c_internal_stringslite_TrimSuffix),
  (fn_p_strings_Builder_copyCheck, c_p_strings_Builder_copyCheck),
  (fn_strings_ContainsAny, c_strings_ContainsAny),
  (fn_strings_Contains, c_strings_Contains),
  (fn_r36_has, c_r36_has),
  (fn_strings_IndexByte, c_strings_IndexByte),
  (fn_strings_explode, c_strings_explode),
  (fn_strings_Count, c_strings_Count),
  (fn_strings_Index, c_strings_Index),
  (fn_strings_IndexAny, c_strings_IndexAny),
  (fn_internal_stringslite_IndexByte, c_internal_stringslite_IndexByte),
  (fn_unicode_utf8_RuneCountInString, c_unicode_utf8_RuneCountInString),
  (fn_unicode_utf8_DecodeRuneInString, c_unicode_utf8_DecodeRuneInString),
  (fn_internal_stringslite_Index, c_internal_stringslite_Index),
  (fn_strings_IndexRune, c_strings_IndexRune),
  (fn_strings_shouldUseASCIISet, c_strings_shouldUseASCIISet),
  (fn_strings_makeASCIISet, c_strings_makeASCIISet),
  (fn_p_strings_asciiSet_contains, c_p_strings_asciiSet_contains),
  (fn_unicode_utf8_decodeRuneInStringSlow, c_unicode_utf8_decodeRuneInStringSlow),
  (fn_internal_bytealg_Cutover, c_internal_bytealg_Cutover),
  (fn_internal_bytealg_IndexRabinKarp_string, c_internal_bytealg_IndexRabinKarp_string),
  (fn_unicode_utf8_ValidRune, c_unicode_utf8_ValidRune),
  (fn_internal_bytealg_hashStr_string, c_internal_bytealg_hashStr_string)]
def prl : List (Nat × (List AV → Heap → Option (AV × Option Heap))) := [(fn_internal_bytealg_IndexByteString, pIndexByte), (fn_internal_bytealg_CountString, pCount), (fn_internal_abi_NoEscape, pSame)]
noncomputable def tb : Tab := ⟨fun n => look n fnl, fun _ => none, fun n => look n prl⟩
theorem f_l06_LinesSplit : tb.prim fn_l06_LinesSplit = none ∧ tb.fns fn_l06_LinesSplit = some c_l06_LinesSplit := ⟨rfl, rfl⟩
theorem f_l06_LinesJoin : tb.prim fn_l06_LinesJoin = none ∧ tb.fns fn_l06_LinesJoin = some c_l06_LinesJoin := ⟨rfl, rfl⟩
theorem f_l36_PairlineBlocks : tb.prim fn_l36_PairlineBlocks = none ∧ tb.fns fn_l36_PairlineBlocks = some c_l36_PairlineBlocks := ⟨rfl, rfl⟩
theorem f_l36_PairlineReads : tb.prim fn_l36_PairlineReads = none ∧ tb.fns fn_l36_PairlineReads = some c_l36_PairlineReads := ⟨rfl, rfl⟩
theorem f_l36_PairlineMany : tb.prim fn_l36_PairlineMany = none ∧ tb.fns fn_l36_PairlineMany = some c_l36_PairlineMany := ⟨rfl, rfl⟩
theorem f_l06_alive : tb.prim fn_l06_alive = none ∧ tb.fns fn_l06_alive = some c_l06_alive := ⟨rfl, rfl⟩
theorem f_r06_Loose : tb.prim fn_r06_Loose = none ∧ tb.fns fn_r06_Loose = some c_r06_Loose := ⟨rfl, rfl⟩
theorem f_lines_Split : tb.prim fn_lines_Split = none ∧ tb.fns fn_lines_Split = some c_lines_Split := ⟨rfl, rfl⟩
theorem f_r06_Same : tb.prim fn_r06_Same = none ∧ tb.fns fn_r06_Same = some c_r06_Same := ⟨rfl, rfl⟩
theorem f_lines_Loose : tb.prim fn_lines_Loose = none ∧ tb.fns fn_lines_Loose = some c_lines_Loose := ⟨rfl, rfl⟩
theorem f_lines_Join : tb.prim fn_lines_Join = none ∧ tb.fns fn_lines_Join = some c_lines_Join := ⟨rfl, rfl⟩
theorem f_r06_Large : tb.prim fn_r06_Large = none ∧ tb.fns fn_r06_Large = some c_r06_Large := ⟨rfl, rfl⟩
theorem f_r06_Join : tb.prim fn_r06_Join = none ∧ tb.fns fn_r06_Join = some c_r06_Join := ⟨rfl, rfl⟩
theorem f_r06_Parts : tb.prim fn_r06_Parts = none ∧ tb.fns fn_r06_Parts = some c_r06_Parts := ⟨rfl, rfl⟩
theorem f_l36_alive : tb.prim fn_l36_alive = none ∧ tb.fns fn_l36_alive = some c_l36_alive := ⟨rfl, rfl⟩
theorem f_pairline_Block : tb.prim fn_pairline_Block = none ∧ tb.fns fn_pairline_Block = some c_pairline_Block := ⟨rfl, rfl⟩
theorem f_r36_Block : tb.prim fn_r36_Block = none ∧ tb.fns fn_r36_Block = some c_r36_Block := ⟨rfl, rfl⟩
theorem f_pairline_Read : tb.prim fn_pairline_Read = none ∧ tb.fns fn_pairline_Read = some c_pairline_Read := ⟨rfl, rfl⟩
theorem f_l36_alike : tb.prim fn_l36_alike = none ∧ tb.fns fn_l36_alike = some c_l36_alike := ⟨rfl, rfl⟩
theorem f_r36_Read : tb.prim fn_r36_Read = none ∧ tb.fns fn_r36_Read = some c_r36_Read := ⟨rfl, rfl⟩
theorem f_lines_Parts : tb.prim fn_lines_Parts = none ∧ tb.fns fn_lines_Parts = some c_lines_Parts := ⟨rfl, rfl⟩
theorem f_strings_HasSuffix : tb.prim fn_strings_HasSuffix = none ∧ tb.fns fn_strings_HasSuffix = some c_strings_HasSuffix := ⟨rfl, rfl⟩
theorem f_strings_Split : tb.prim fn_strings_Split = none ∧ tb.fns fn_strings_Split = some c_strings_Split := ⟨rfl, rfl⟩
theorem f_strings_TrimSuffix : tb.prim fn_strings_TrimSuffix = none ∧ tb.fns fn_strings_TrimSuffix = some c_strings_TrimSuffix := ⟨rfl, rfl⟩
theorem f_p_strings_Builder_WriteString : tb.prim fn_p_strings_Builder_WriteString = none ∧ tb.fns fn_p_strings_Builder_WriteString = some c_p_strings_Builder_WriteString := ⟨rfl, rfl⟩
theorem f_p_strings_Builder_String : tb.prim fn_p_strings_Builder_String = none ∧ tb.fns fn_p_strings_Builder_String = some c_p_strings_Builder_String := ⟨rfl, rfl⟩
theorem f_pairline_Text : tb.prim fn_pairline_Text = none ∧ tb.fns fn_pairline_Text = some c_pairline_Text := ⟨rfl, rfl⟩
theorem f_r36_Text : tb.prim fn_r36_Text = none ∧ tb.fns fn_r36_Text = some c_r36_Text := ⟨rfl, rfl⟩
theorem f_slices_Index_string : tb.prim fn_slices_Index_string = none ∧ tb.fns fn_slices_Index_string = some c_slices_Index_string := ⟨rfl, rfl⟩
theorem f_pairline_Parse : tb.prim fn_pairline_Parse = none ∧ tb.fns fn_pairline_Parse = some c_pairline_Parse := ⟨rfl, rfl⟩
theorem f_r36_Parse : tb.prim fn_r36_Parse = none ∧ tb.fns fn_r36_Parse = some c_r36_Parse := ⟨rfl, rfl⟩
theorem f_lines_Cut : tb.prim fn_lines_Cut = none ∧ tb.fns fn_lines_Cut = some c_lines_Cut := ⟨rfl, rfl⟩
theorem f_internal_stringslite_HasSuffix : tb.prim fn_internal_stringslite_HasSuffix = none ∧ tb.fns fn_internal_stringslite_HasSuffix = some c_internal_stringslite_HasSuffix := ⟨rfl, rfl⟩
theorem f_strings_genSplit : tb.prim fn_strings_genSplit = none ∧ tb.fns fn_strings_genSplit = some c_strings_genSplit := ⟨rfl, rfl⟩
theorem f_internal_stringslite_TrimSuffix : tb.prim fn_internal_stringslite_TrimSuffix = none ∧ tb.fns fn_internal_stringslite_TrimSuffix = some c_internal_stringslite_TrimSuffix := ⟨rfl, rfl⟩
theorem f_p_strings_Builder_copyCheck : tb.prim fn_p_strings_Builder_copyCheck = none ∧ tb.fns fn_p_strings_Builder_copyCheck = some c_p_strings_Builder_copyCheck := ⟨rfl, rfl⟩
theorem f_strings_ContainsAny : tb.prim fn_strings_ContainsAny = none ∧ tb.fns fn_strings_ContainsAny = some c_strings_ContainsAny := ⟨rfl, rfl⟩
theorem f_strings_Contains : tb.prim fn_strings_Contains = none ∧ tb.fns fn_strings_Contains = some c_strings_Contains := ⟨rfl, rfl⟩
theorem f_r36_has : tb.prim fn_r36_has = none ∧ tb.fns fn_r36_has = some c_r36_has := ⟨rfl, rfl⟩
theorem f_strings_IndexByte : tb.prim fn_strings_IndexByte = none ∧ tb.fns fn_strings_IndexByte = some c_strings_IndexByte := ⟨rfl, rfl⟩
theorem f_strings_explode : tb.prim fn_strings_explode = none ∧ tb.fns fn_strings_explode = some c_strings_explode := ⟨rfl, rfl⟩
theorem f_strings_Count : tb.prim fn_strings_Count = none ∧ tb.fns fn_strings_Count = some c_strings_Count := ⟨rfl, rfl⟩
theorem f_strings_Index : tb.prim fn_strings_Index = none ∧ tb.fns fn_strings_Index = some c_strings_Index := ⟨rfl, rfl⟩
theorem f_strings_IndexAny : tb.prim fn_strings_IndexAny = none ∧ tb.fns fn_strings_IndexAny = some c_strings_IndexAny := ⟨rfl, rfl⟩
theorem f_internal_stringslite_IndexByte : tb.prim fn_internal_stringslite_IndexByte = none ∧ tb.fns fn_internal_stringslite_IndexByte = some c_internal_stringslite_IndexByte := ⟨rfl, rfl⟩
theorem f_unicode_utf8_RuneCountInString : tb.prim fn_unicode_utf8_RuneCountInString = none ∧ tb.fns fn_unicode_utf8_RuneCountInString = some c_unicode_utf8_RuneCountInString := ⟨rfl, rfl⟩
theorem f_unicode_utf8_DecodeRuneInString : tb.prim fn_unicode_utf8_DecodeRuneInString = none ∧ tb.fns fn_unicode_utf8_DecodeRuneInString = some c_unicode_utf8_DecodeRuneInString := ⟨rfl, rfl⟩
theorem f_internal_stringslite_Index : tb.prim fn_internal_stringslite_Index = none ∧ tb.fns fn_internal_stringslite_Index = some c_internal_stringslite_Index := ⟨rfl, rfl⟩
theorem f_strings_IndexRune : tb.prim fn_strings_IndexRune = none ∧ tb.fns fn_strings_IndexRune = some c_strings_IndexRune := ⟨rfl, rfl⟩
theorem f_strings_shouldUseASCIISet : tb.prim fn_strings_shouldUseASCIISet = none ∧ tb.fns fn_strings_shouldUseASCIISet = some c_strings_shouldUseASCIISet := ⟨rfl, rfl⟩
theorem f_strings_makeASCIISet : tb.prim fn_strings_makeASCIISet = none ∧ tb.fns fn_strings_makeASCIISet = some c_strings_makeASCIISet := ⟨rfl, rfl⟩
theorem f_p_strings_asciiSet_contains : tb.prim fn_p_strings_asciiSet_contains = none ∧ tb.fns fn_p_strings_asciiSet_contains = some c_p_strings_asciiSet_contains := ⟨rfl, rfl⟩
theorem f_unicode_utf8_decodeRuneInStringSlow : tb.prim fn_unicode_utf8_decodeRuneInStringSlow = none ∧ tb.fns fn_unicode_utf8_decodeRuneInStringSlow = some c_unicode_utf8_decodeRuneInStringSlow := ⟨rfl, rfl⟩
theorem f_internal_bytealg_Cutover : tb.prim fn_internal_bytealg_Cutover = none ∧ tb.fns fn_internal_bytealg_Cutover = some c_internal_bytealg_Cutover := ⟨rfl, rfl⟩
theorem f_internal_bytealg_IndexRabinKarp_string : tb.prim fn_internal_bytealg_IndexRabinKarp_string = none ∧ tb.fns fn_internal_bytealg_IndexRabinKarp_string = some c_internal_bytealg_IndexRabinKarp_string := ⟨rfl, rfl⟩
theorem f_unicode_utf8_ValidRune : tb.prim fn_unicode_utf8_ValidRune = none ∧ tb.fns fn_unicode_utf8_ValidRune = some c_unicode_utf8_ValidRune := ⟨rfl, rfl⟩
theorem f_internal_bytealg_hashStr_string : tb.prim fn_internal_bytealg_hashStr_string = none ∧ tb.fns fn_internal_bytealg_hashStr_string = some c_internal_bytealg_hashStr_string := ⟨rfl, rfl⟩
end Go.Proofs.YtopgecohakediaaDoor.Am
