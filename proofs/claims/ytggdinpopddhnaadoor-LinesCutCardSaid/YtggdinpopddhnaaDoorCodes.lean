/-
  The functions: their numbers, their codes. Printed by mkwalk.py.
-/
import Derived.Test.YtggdinpopddhnaaDoorTy
import Derived.Test.YtggdinpopddhnaaDoorAmV
set_option linter.unusedVariables false
set_option maxRecDepth 100000
namespace Go.Proofs.YtggdinpopddhnaaDoor.Am

def fn_l06_LinesCut : Nat := 3
def fn_l06_alive : Nat := 12
def fn_r06_Parts : Nat := 13
def fn_lines_Cut : Nat := 14
def fn_r06_Same : Nat := 15
def fn_lines_Parts : Nat := 16
def fn_lines_Split : Nat := 18
def fn_lines_Loose : Nat := 19
def fn_strings_IndexByte : Nat := 40
def fn_strings_HasSuffix : Nat := 41
def fn_strings_Split : Nat := 42
def fn_strings_TrimSuffix : Nat := 43
def fn_internal_stringslite_IndexByte : Nat := 55
def fn_internal_stringslite_HasSuffix : Nat := 56
def fn_strings_genSplit : Nat := 57
def fn_internal_stringslite_TrimSuffix : Nat := 58
def fn_strings_Index : Nat := 61
def fn_internal_bytealg_IndexByteString : Nat := 72
def fn_strings_explode : Nat := 73
def fn_strings_Count : Nat := 74
def fn_internal_stringslite_Index : Nat := 79
def fn_unicode_utf8_DecodeRuneInString : Nat := 80
def fn_unicode_utf8_RuneCountInString : Nat := 86
def fn_internal_bytealg_CountString : Nat := 87
def fn_internal_bytealg_Cutover : Nat := 89
def fn_internal_bytealg_IndexString : Nat := 90
def fn_internal_bytealg_IndexRabinKarp_string : Nat := 91
def fn_unicode_utf8_decodeRuneInStringSlow : Nat := 92
def fn_internal_bytealg_hashStr_string : Nat := 96
noncomputable def c_l06_LinesCut : AFn := ⟨false, 2, 59, [.tmp 4],
  (.seq (rg false [⟨some 4, none, .mv (.k (.b false))⟩])
  (.seq (.seq (rg false [⟨some 9, none, .mv (.t 0)⟩, ⟨some 10, none, .lens (.t 9)⟩, ⟨some 11, none, .bin .gtr (.t 10) (.k (.i .i64 300))⟩])
  (.cond (.t 11)
   (.seq (rg false [⟨some 12, none, .call fn_l06_alive []⟩, ⟨some 4, none, .mv (.t 12)⟩])
   .ret)
   .skip))
  (.seq (rg false [⟨some 13, none, .mv (.t 0)⟩, ⟨some 14, none, .mv (.t 1)⟩, ⟨some 15, none, .call fn_r06_Parts [(.t 13), (.t 14)]⟩, ⟨some 5, none, .mv (.t 15)⟩])
  (.seq (rg false [⟨some 17, none, .mv (.t 0)⟩, ⟨some 18, none, .mv (.t 1)⟩, ⟨some 19, none, .call fn_lines_Cut [(.t 17), (.t 18)]⟩, ⟨some 16, none, .mv (.t 19)⟩, ⟨some 20, none, .ext (.t 16) 0⟩, ⟨some 21, none, .ext (.t 16) 1⟩, ⟨some 22, none, .ext (.t 16) 2⟩, ⟨some 6, none, .mv (.t 20)⟩, ⟨some 7, none, .mv (.t 21)⟩, ⟨some 8, none, .mv (.t 22)⟩])
  (.seq (.seq (rg false [⟨some 23, none, .mv (.t 0)⟩, ⟨some 24, none, .mv (.t 1)⟩, ⟨some 25, none, .call fn_lines_Parts [(.t 23), (.t 24)]⟩, ⟨some 26, none, .mv (.t 5)⟩, ⟨some 27, none, .call fn_r06_Same [(.t 25), (.t 26)]⟩, ⟨some 28, none, .un .not (.t 27)⟩, ⟨some 29, none, .mv (.t 28)⟩, ⟨some 30, some (29, false), .mv (.t 8)⟩, ⟨some 31, some (29, false), .mv (.t 5)⟩, ⟨some 32, some (29, false), .len (.t 31)⟩, ⟨some 33, some (29, false), .bin .gtr (.t 32) (.k (.i .i64 1))⟩, ⟨some 34, some (29, false), .eq true (.one (.b)) (.t 30) (.t 33)⟩, ⟨some 35, none, .pick (.t 29) (.k (.b true)) (.t 34)⟩, ⟨some 36, none, .mv (.t 35)⟩, ⟨some 37, some (36, false), .mv (.t 6)⟩, ⟨some 38, some (36, false), .mv (.t 5)⟩, ⟨some 39, some (36, false), .ias 1 (.t 38) (.k (.i .i64 0))⟩, ⟨some 40, some (36, false), .ld false 1 (.t 39)⟩, ⟨some 41, some (36, false), .bin .neq (.t 37) (.t 40)⟩, ⟨some 42, none, .pick (.t 36) (.k (.b true)) (.t 41)⟩])
  (.cond (.t 42)
   (.seq (rg false [⟨some 4, none, .mv (.k (.b false))⟩])
   .ret)
   .skip))
  (.seq (.seq (rg false [⟨some 43, none, .mv (.t 8)⟩, ⟨some 44, none, .un .not (.t 43)⟩])
  (.cond (.t 44)
   (.seq (rg false [⟨some 45, none, .mv (.t 7)⟩, ⟨some 46, none, .bin .eql (.t 45) (.k (.s []))⟩, ⟨some 47, none, .mv (.t 46)⟩, ⟨some 48, some (47, true), .call fn_l06_alive []⟩, ⟨some 49, none, .pick (.t 47) (.t 48) (.k (.b false))⟩, ⟨some 4, none, .mv (.t 49)⟩])
   .ret)
   .skip))
  (.seq (rg true [⟨some 50, none, .mv (.t 7)⟩, ⟨some 51, none, .mv (.t 1)⟩, ⟨some 52, none, .call fn_r06_Parts [(.t 50), (.t 51)]⟩, ⟨some 53, none, .mv (.t 5)⟩, ⟨some 54, none, .sll 1 (.t 53) (some (.k (.i .i64 1))) none⟩, ⟨some 55, none, .call fn_r06_Same [(.t 52), (.t 54)]⟩, ⟨some 56, none, .mv (.t 55)⟩, ⟨some 57, some (56, true), .call fn_l06_alive []⟩, ⟨some 58, none, .pick (.t 56) (.t 57) (.k (.b false))⟩, ⟨some 4, none, .mv (.t 58)⟩])
  .ret)))))))⟩
noncomputable def c_l06_alive : AFn := ⟨false, 0, 23, [.tmp 0],
  (.seq (rg false [⟨some 0, none, .mv (.k (.b false))⟩])
  (.seq (rg false [⟨some 4, none, .call fn_lines_Split [(.k (.s [97, 10, 10]))]⟩, ⟨some 3, none, .mv (.t 4)⟩, ⟨some 5, none, .ext (.t 3) 0⟩, ⟨some 6, none, .ext (.t 3) 1⟩, ⟨some 1, none, .mv (.t 5)⟩, ⟨some 2, none, .mv (.t 6)⟩])
  (.seq (rg false [⟨some 7, none, .mv (.t 2)⟩, ⟨some 8, none, .mv (.t 7)⟩, ⟨some 9, some (8, true), .mv (.t 1)⟩, ⟨some 10, some (8, true), .bll 1 (List.replicate 2 T.str.zc) [(0, (.k (.s [97]))), (1, (.k (.s [])))]⟩, ⟨some 11, some (8, true), .call fn_r06_Same [(.t 9), (.t 10)]⟩, ⟨some 12, none, .pick (.t 8) (.t 11) (.k (.b false))⟩, ⟨some 13, none, .mv (.t 12)⟩, ⟨some 14, some (13, true), .call fn_lines_Loose [(.k (.s [97, 10, 98]))]⟩, ⟨some 15, some (13, true), .bll 1 (List.replicate 2 T.str.zc) [(0, (.k (.s [97]))), (1, (.k (.s [98])))]⟩, ⟨some 16, some (13, true), .call fn_r06_Same [(.t 14), (.t 15)]⟩, ⟨some 17, none, .pick (.t 13) (.t 16) (.k (.b false))⟩, ⟨some 18, none, .mv (.t 17)⟩, ⟨some 19, some (18, true), .call fn_lines_Parts [(.k (.s [97, 44, 44, 98])), (.k (.i .u8 44))]⟩, ⟨some 20, some (18, true), .len (.t 19)⟩, ⟨some 21, some (18, true), .bin .eql (.t 20) (.k (.i .i64 3))⟩, ⟨some 22, none, .pick (.t 18) (.t 21) (.k (.b false))⟩, ⟨some 0, none, .mv (.t 22)⟩])
  .ret)))⟩
noncomputable def c_r06_Parts_l0 : AC :=
  (.seq (.seq (rg false [⟨some 8, none, .mv (.t 7)⟩, ⟨some 9, none, .mv (.t 0)⟩, ⟨some 10, none, .lens (.t 9)⟩, ⟨some 11, none, .bin .lss (.t 8) (.t 10)⟩])
  (.cond (.t 11)
   .skip
   (.exit 0)))
  (.seq (.blk 1
   (.seq (rg false [⟨some 14, none, .mv (.t 0)⟩, ⟨some 15, none, .mv (.t 7)⟩, ⟨some 16, none, .ixs (.t 14) (.t 15)⟩, ⟨some 17, none, .mv (.t 1)⟩, ⟨some 18, none, .bin .eql (.t 16) (.t 17)⟩])
   (.cond (.t 18)
    (.seq (rg false [⟨some 19, none, .mv (.t 6)⟩, ⟨some 20, none, .mv (.t 0)⟩, ⟨some 21, none, .mv (.t 5)⟩, ⟨some 22, none, .mv (.t 7)⟩, ⟨some 23, none, .sls (.t 20) (some (.t 21)) (some (.t 22))⟩, ⟨some 24, none, .bll 1 (List.replicate 1 T.str.zc) [(0, (.t 23))]⟩, ⟨some 25, none, .app 1 16 (.t 19) (.t 24)⟩, ⟨some 6, none, .mv (.t 25)⟩])
    (rg false [⟨some 26, none, .mv (.t 7)⟩, ⟨some 27, none, .bin .add (.t 26) (.k (.i .i64 1))⟩, ⟨some 5, none, .mv (.t 27)⟩]))
    .skip)))
  (rg false [⟨some 12, none, .mv (.t 7)⟩, ⟨some 13, none, .bin .add (.t 12) (.k (.i .i64 1))⟩, ⟨some 7, none, .mv (.t 13)⟩])))
noncomputable def c_r06_Parts : AFn := ⟨false, 2, 34, [.tmp 4],
  (.seq (rg false [⟨some 4, none, .mv (.k (.nils))⟩])
  (.seq (rg false [⟨some 5, none, .mv (.k (.i .i64 0))⟩])
  (.seq (rg false [⟨some 6, none, .mv (.k (.nils))⟩])
  (.seq (.seq (rg false [⟨some 7, none, .mv (.k (.i .i64 0))⟩])
  (.blk 0
   (.loop [0, 1, 5, 6, 7] c_r06_Parts_l0)))
  (.seq (rg false [⟨some 28, none, .mv (.t 6)⟩, ⟨some 29, none, .mv (.t 0)⟩, ⟨some 30, none, .mv (.t 5)⟩, ⟨some 31, none, .sls (.t 29) (some (.t 30)) none⟩, ⟨some 32, none, .bll 1 (List.replicate 1 T.str.zc) [(0, (.t 31))]⟩, ⟨some 33, none, .app 1 16 (.t 28) (.t 32)⟩, ⟨some 4, none, .mv (.t 33)⟩])
  .ret)))))⟩
noncomputable def c_lines_Cut : AFn := ⟨false, 2, 21, [.tmp 4, .tmp 5, .tmp 6],
  (.seq (rg false [⟨some 4, none, .mv (.k (.s []))⟩, ⟨some 5, none, .mv (.k (.s []))⟩, ⟨some 6, none, .mv (.k (.b false))⟩])
  (.seq (rg false [⟨some 8, none, .mv (.t 0)⟩, ⟨some 9, none, .mv (.t 1)⟩, ⟨some 10, none, .call fn_strings_IndexByte [(.t 8), (.t 9)]⟩, ⟨some 7, none, .mv (.t 10)⟩])
  (.seq (.seq (rg false [⟨some 11, none, .mv (.t 7)⟩, ⟨some 12, none, .bin .lss (.t 11) (.k (.i .i64 0))⟩])
  (.cond (.t 12)
   (.seq (rg false [⟨some 13, none, .mv (.t 0)⟩, ⟨some 4, none, .mv (.t 13)⟩, ⟨some 5, none, .mv (.k (.s []))⟩, ⟨some 6, none, .mv (.k (.b false))⟩])
   .ret)
   .skip))
  (.seq (rg true [⟨some 14, none, .mv (.t 0)⟩, ⟨some 15, none, .mv (.t 7)⟩, ⟨some 16, none, .sls (.t 14) none (some (.t 15))⟩, ⟨some 17, none, .mv (.t 0)⟩, ⟨some 18, none, .mv (.t 7)⟩, ⟨some 19, none, .bin .add (.t 18) (.k (.i .i64 1))⟩, ⟨some 20, none, .sls (.t 17) (some (.t 19)) none⟩, ⟨some 4, none, .mv (.t 16)⟩, ⟨some 5, none, .mv (.t 20)⟩, ⟨some 6, none, .mv (.k (.b true))⟩])
  .ret))))⟩
noncomputable def c_r06_Same_l0 : AC :=
  (.seq (.seq (rg false [⟨some 11, none, .mv (.t 5)⟩, ⟨some 12, none, .mv (.t 0)⟩, ⟨some 13, none, .len (.t 12)⟩, ⟨some 14, none, .bin .lss (.t 11) (.t 13)⟩])
  (.cond (.t 14)
   .skip
   (.exit 0)))
  (.seq (.blk 1
   (.seq (rg true [⟨some 17, none, .mv (.t 0)⟩, ⟨some 18, none, .mv (.t 5)⟩, ⟨some 19, none, .ias 1 (.t 17) (.t 18)⟩, ⟨some 20, none, .ld false 1 (.t 19)⟩, ⟨some 21, none, .mv (.t 1)⟩, ⟨some 22, none, .mv (.t 5)⟩, ⟨some 23, none, .ias 1 (.t 21) (.t 22)⟩, ⟨some 24, none, .ld false 1 (.t 23)⟩, ⟨some 25, none, .bin .neq (.t 20) (.t 24)⟩])
   (.cond (.t 25)
    (.seq (rg false [⟨some 4, none, .mv (.k (.b false))⟩])
    .ret)
    .skip)))
  (rg false [⟨some 15, none, .mv (.t 5)⟩, ⟨some 16, none, .bin .add (.t 15) (.k (.i .i64 1))⟩, ⟨some 5, none, .mv (.t 16)⟩])))
noncomputable def c_r06_Same : AFn := ⟨false, 2, 26, [.tmp 4],
  (.seq (rg false [⟨some 4, none, .mv (.k (.b false))⟩])
  (.seq (.seq (rg false [⟨some 6, none, .mv (.t 0)⟩, ⟨some 7, none, .len (.t 6)⟩, ⟨some 8, none, .mv (.t 1)⟩, ⟨some 9, none, .len (.t 8)⟩, ⟨some 10, none, .bin .neq (.t 7) (.t 9)⟩])
  (.cond (.t 10)
   (.seq (rg false [⟨some 4, none, .mv (.k (.b false))⟩])
   .ret)
   .skip))
  (.seq (.seq (rg false [⟨some 5, none, .mv (.k (.i .i64 0))⟩])
  (.blk 0
   (.loop [0, 1, 5] c_r06_Same_l0)))
  (.seq (rg false [⟨some 4, none, .mv (.k (.b true))⟩])
  .ret))))⟩
noncomputable def c_lines_Parts_l0 : AC :=
  (.blk 1
   (.seq (rg false [⟨some 10, none, .mv (.t 0)⟩, ⟨some 11, none, .mv (.t 1)⟩, ⟨some 12, none, .call fn_lines_Cut [(.t 10), (.t 11)]⟩, ⟨some 9, none, .mv (.t 12)⟩, ⟨some 13, none, .ext (.t 9) 0⟩, ⟨some 14, none, .ext (.t 9) 1⟩, ⟨some 15, none, .ext (.t 9) 2⟩, ⟨some 6, none, .mv (.t 13)⟩, ⟨some 7, none, .mv (.t 14)⟩, ⟨some 8, none, .mv (.t 15)⟩])
   (.seq (rg false [⟨some 16, none, .mv (.t 5)⟩, ⟨some 17, none, .mv (.t 6)⟩, ⟨some 18, none, .bll 1 (List.replicate 1 T.str.zc) [(0, (.t 17))]⟩, ⟨some 19, none, .app 1 16 (.t 16) (.t 18)⟩, ⟨some 5, none, .mv (.t 19)⟩])
   (.seq (.seq (rg false [⟨some 20, none, .mv (.t 8)⟩, ⟨some 21, none, .un .not (.t 20)⟩])
   (.cond (.t 21)
    (.seq (rg false [⟨some 22, none, .mv (.t 5)⟩, ⟨some 4, none, .mv (.t 22)⟩])
    .ret)
    .skip))
   (rg false [⟨some 23, none, .mv (.t 7)⟩, ⟨some 0, none, .mv (.t 23)⟩])))))
noncomputable def c_lines_Parts : AFn := ⟨false, 2, 24, [.tmp 4],
  (.seq (rg false [⟨some 4, none, .mv (.k (.nils))⟩])
  (.seq (rg false [⟨some 5, none, .mv (.k (.nils))⟩])
  (.blk 0
   (.loop [0, 1, 5] c_lines_Parts_l0))))⟩
noncomputable def c_lines_Split : AFn := ⟨false, 1, 13, [.tmp 2, .tmp 3],
  (.seq (rg false [⟨some 2, none, .mv (.k (.nils))⟩, ⟨some 3, none, .mv (.k (.b false))⟩])
  (.seq (.seq (rg false [⟨some 4, none, .mv (.t 0)⟩, ⟨some 5, none, .bin .neq (.t 4) (.k (.s []))⟩, ⟨some 6, none, .mv (.t 5)⟩, ⟨some 7, some (6, true), .mv (.t 0)⟩, ⟨some 8, some (6, true), .call fn_strings_HasSuffix [(.t 7), (.k (.s [10]))]⟩, ⟨some 9, some (6, true), .un .not (.t 8)⟩, ⟨some 10, none, .pick (.t 6) (.t 9) (.k (.b false))⟩])
  (.cond (.t 10)
   (.seq (rg false [⟨some 2, none, .mv (.k (.nils))⟩, ⟨some 3, none, .mv (.k (.b false))⟩])
   .ret)
   .skip))
  (.seq (rg false [⟨some 11, none, .mv (.t 0)⟩, ⟨some 12, none, .call fn_lines_Loose [(.t 11)]⟩, ⟨some 2, none, .mv (.t 12)⟩, ⟨some 3, none, .mv (.k (.b true))⟩])
  .ret)))⟩
noncomputable def c_lines_Loose : AFn := ⟨false, 1, 8, [.tmp 2],
  (.seq (rg false [⟨some 2, none, .mv (.k (.nils))⟩])
  (.seq (.seq (rg false [⟨some 3, none, .mv (.t 0)⟩, ⟨some 4, none, .bin .eql (.t 3) (.k (.s []))⟩])
  (.cond (.t 4)
   (.seq (rg false [⟨some 2, none, .mv (.k (.nils))⟩])
   .ret)
   .skip))
  (.seq (rg false [⟨some 5, none, .mv (.t 0)⟩, ⟨some 6, none, .call fn_strings_TrimSuffix [(.t 5), (.k (.s [10]))]⟩, ⟨some 7, none, .call fn_strings_Split [(.t 6), (.k (.s [10]))]⟩, ⟨some 2, none, .mv (.t 7)⟩])
  .ret)))⟩
noncomputable def c_strings_IndexByte : AFn := ⟨false, 2, 8, [.tmp 4],
  (.seq (rg false [⟨some 4, none, .mv (.k (.i .i64 0))⟩])
  (.seq (rg false [⟨some 5, none, .mv (.t 0)⟩, ⟨some 6, none, .mv (.t 1)⟩, ⟨some 7, none, .call fn_internal_stringslite_IndexByte [(.t 5), (.t 6)]⟩, ⟨some 4, none, .mv (.t 7)⟩])
  .ret))⟩
noncomputable def c_strings_HasSuffix : AFn := ⟨false, 2, 8, [.tmp 4],
  (.seq (rg false [⟨some 4, none, .mv (.k (.b false))⟩])
  (.seq (rg false [⟨some 5, none, .mv (.t 0)⟩, ⟨some 6, none, .mv (.t 1)⟩, ⟨some 7, none, .call fn_internal_stringslite_HasSuffix [(.t 5), (.t 6)]⟩, ⟨some 4, none, .mv (.t 7)⟩])
  .ret))⟩
noncomputable def c_strings_Split : AFn := ⟨false, 2, 8, [.tmp 4],
  (.seq (rg false [⟨some 4, none, .mv (.k (.nils))⟩])
  (.seq (rg false [⟨some 5, none, .mv (.t 0)⟩, ⟨some 6, none, .mv (.t 1)⟩, ⟨some 7, none, .call fn_strings_genSplit [(.t 5), (.t 6), (.k (.i .i64 0)), (.k (.i .i64 (-1)))]⟩, ⟨some 4, none, .mv (.t 7)⟩])
  .ret))⟩
noncomputable def c_strings_TrimSuffix : AFn := ⟨false, 2, 8, [.tmp 4],
  (.seq (rg false [⟨some 4, none, .mv (.k (.s []))⟩])
  (.seq (rg false [⟨some 5, none, .mv (.t 0)⟩, ⟨some 6, none, .mv (.t 1)⟩, ⟨some 7, none, .call fn_internal_stringslite_TrimSuffix [(.t 5), (.t 6)]⟩, ⟨some 4, none, .mv (.t 7)⟩])
  .ret))⟩
noncomputable def c_internal_stringslite_IndexByte : AFn := ⟨false, 2, 8, [.tmp 4],
  (.seq (rg false [⟨some 4, none, .mv (.k (.i .i64 0))⟩])
  (.seq (rg false [⟨some 5, none, .mv (.t 0)⟩, ⟨some 6, none, .mv (.t 1)⟩, ⟨some 7, none, .call fn_internal_bytealg_IndexByteString [(.t 5), (.t 6)]⟩, ⟨some 4, none, .mv (.t 7)⟩])
  .ret))⟩
noncomputable def c_internal_stringslite_HasSuffix : AFn := ⟨false, 2, 21, [.tmp 4],
  (.seq (rg false [⟨some 4, none, .mv (.k (.b false))⟩])
  (.seq (rg false [⟨some 5, none, .mv (.t 0)⟩, ⟨some 6, none, .lens (.t 5)⟩, ⟨some 7, none, .mv (.t 1)⟩, ⟨some 8, none, .lens (.t 7)⟩, ⟨some 9, none, .bin .geq (.t 6) (.t 8)⟩, ⟨some 10, none, .mv (.t 9)⟩, ⟨some 11, some (10, true), .mv (.t 0)⟩, ⟨some 12, some (10, true), .mv (.t 0)⟩, ⟨some 13, some (10, true), .lens (.t 12)⟩, ⟨some 14, some (10, true), .mv (.t 1)⟩, ⟨some 15, some (10, true), .lens (.t 14)⟩, ⟨some 16, some (10, true), .bin .sub (.t 13) (.t 15)⟩, ⟨some 17, some (10, true), .sls (.t 11) (some (.t 16)) none⟩, ⟨some 18, some (10, true), .mv (.t 1)⟩, ⟨some 19, some (10, true), .bin .eql (.t 17) (.t 18)⟩, ⟨some 20, none, .pick (.t 10) (.t 19) (.k (.b false))⟩, ⟨some 4, none, .mv (.t 20)⟩])
  .ret))⟩
noncomputable def c_strings_genSplit_l0 : AC :=
  (.seq (.seq (rg false [⟨some 34, none, .mv (.t 10)⟩, ⟨some 35, none, .mv (.t 3)⟩, ⟨some 36, none, .bin .lss (.t 34) (.t 35)⟩])
  (.cond (.t 36)
   .skip
   (.exit 0)))
  (.blk 1
   (.seq (rg false [⟨some 37, none, .mv (.t 0)⟩, ⟨some 38, none, .mv (.t 1)⟩, ⟨some 39, none, .call fn_strings_Index [(.t 37), (.t 38)]⟩, ⟨some 11, none, .mv (.t 39)⟩])
   (.seq (.seq (rg false [⟨some 40, none, .mv (.t 11)⟩, ⟨some 41, none, .bin .lss (.t 40) (.k (.i .i64 0))⟩])
   (.cond (.t 41)
    (.exit 0)
    .skip))
   (.seq (rg false [⟨some 42, none, .mv (.t 9)⟩, ⟨some 43, none, .mv (.t 10)⟩, ⟨some 44, none, .mv (.t 0)⟩, ⟨some 45, none, .mv (.t 11)⟩, ⟨some 46, none, .mv (.t 2)⟩, ⟨some 47, none, .bin .add (.t 45) (.t 46)⟩, ⟨some 48, none, .sls (.t 44) none (some (.t 47))⟩, ⟨some 49, none, .ias 1 (.t 42) (.t 43)⟩, ⟨none, none, .st 1 (.t 49) (.t 48)⟩])
   (.seq (rg false [⟨some 50, none, .mv (.t 0)⟩, ⟨some 51, none, .mv (.t 11)⟩, ⟨some 52, none, .mv (.t 1)⟩, ⟨some 53, none, .lens (.t 52)⟩, ⟨some 54, none, .bin .add (.t 51) (.t 53)⟩, ⟨some 55, none, .sls (.t 50) (some (.t 54)) none⟩, ⟨some 0, none, .mv (.t 55)⟩])
   (rg false [⟨some 56, none, .mv (.t 10)⟩, ⟨some 57, none, .bin .add (.t 56) (.k (.i .i64 1))⟩, ⟨some 10, none, .mv (.t 57)⟩])))))))
noncomputable def c_strings_genSplit : AFn := ⟨false, 4, 66, [.tmp 8],
  (.seq (rg false [⟨some 8, none, .mv (.k (.nils))⟩])
  (.seq (.seq (rg false [⟨some 12, none, .mv (.t 3)⟩, ⟨some 13, none, .bin .eql (.t 12) (.k (.i .i64 0))⟩])
  (.cond (.t 13)
   (.seq (rg false [⟨some 8, none, .mv (.k (.nils))⟩])
   .ret)
   .skip))
  (.seq (.seq (rg false [⟨some 14, none, .mv (.t 1)⟩, ⟨some 15, none, .bin .eql (.t 14) (.k (.s []))⟩])
  (.cond (.t 15)
   (.seq (rg false [⟨some 16, none, .mv (.t 0)⟩, ⟨some 17, none, .mv (.t 3)⟩, ⟨some 18, none, .call fn_strings_explode [(.t 16), (.t 17)]⟩, ⟨some 8, none, .mv (.t 18)⟩])
   .ret)
   .skip))
  (.seq (.seq (rg false [⟨some 19, none, .mv (.t 3)⟩, ⟨some 20, none, .bin .lss (.t 19) (.k (.i .i64 0))⟩])
  (.cond (.t 20)
   (rg false [⟨some 21, none, .mv (.t 0)⟩, ⟨some 22, none, .mv (.t 1)⟩, ⟨some 23, none, .call fn_strings_Count [(.t 21), (.t 22)]⟩, ⟨some 24, none, .bin .add (.t 23) (.k (.i .i64 1))⟩, ⟨some 3, none, .mv (.t 24)⟩])
   .skip))
  (.seq (rg false [⟨some 25, none, .mv (.t 3)⟩, ⟨some 26, none, .mv (.t 0)⟩, ⟨some 27, none, .lens (.t 26)⟩, ⟨some 28, none, .bin .add (.t 27) (.k (.i .i64 1))⟩, ⟨some 29, none, .mnx false (.t 25) (.t 28)⟩, ⟨some 3, none, .mv (.t 29)⟩])
  (.seq (rg false [⟨some 30, none, .mv (.t 3)⟩, ⟨some 31, none, .mks 1 16 T.str.zc (.t 30) (.t 30)⟩, ⟨some 9, none, .mv (.t 31)⟩])
  (.seq (rg false [⟨some 32, none, .mv (.t 3)⟩, ⟨some 33, none, .bin .sub (.t 32) (.k (.i .i64 1))⟩, ⟨some 3, none, .mv (.t 33)⟩])
  (.seq (rg false [⟨some 10, none, .mv (.k (.i .i64 0))⟩])
  (.seq (.blk 0
   (.loop [0, 1, 2, 3, 9, 10] c_strings_genSplit_l0))
  (.seq (rg false [⟨some 58, none, .mv (.t 9)⟩, ⟨some 59, none, .mv (.t 10)⟩, ⟨some 60, none, .mv (.t 0)⟩, ⟨some 61, none, .ias 1 (.t 58) (.t 59)⟩, ⟨none, none, .st 1 (.t 61) (.t 60)⟩])
  (.seq (rg false [⟨some 62, none, .mv (.t 9)⟩, ⟨some 63, none, .mv (.t 10)⟩, ⟨some 64, none, .bin .add (.t 63) (.k (.i .i64 1))⟩, ⟨some 65, none, .sll 1 (.t 62) none (some (.t 64))⟩, ⟨some 8, none, .mv (.t 65)⟩])
  .ret)))))))))))⟩
noncomputable def c_internal_stringslite_TrimSuffix : AFn := ⟨false, 2, 16, [.tmp 4],
  (.seq (rg false [⟨some 4, none, .mv (.k (.s []))⟩])
  (.seq (.seq (rg false [⟨some 5, none, .mv (.t 0)⟩, ⟨some 6, none, .mv (.t 1)⟩, ⟨some 7, none, .call fn_internal_stringslite_HasSuffix [(.t 5), (.t 6)]⟩])
  (.cond (.t 7)
   (.seq (rg false [⟨some 8, none, .mv (.t 0)⟩, ⟨some 9, none, .mv (.t 0)⟩, ⟨some 10, none, .lens (.t 9)⟩, ⟨some 11, none, .mv (.t 1)⟩, ⟨some 12, none, .lens (.t 11)⟩, ⟨some 13, none, .bin .sub (.t 10) (.t 12)⟩, ⟨some 14, none, .sls (.t 8) none (some (.t 13))⟩, ⟨some 4, none, .mv (.t 14)⟩])
   .ret)
   .skip))
  (.seq (rg false [⟨some 15, none, .mv (.t 0)⟩, ⟨some 4, none, .mv (.t 15)⟩])
  .ret)))⟩
noncomputable def c_strings_Index : AFn := ⟨false, 2, 8, [.tmp 4],
  (.seq (rg false [⟨some 4, none, .mv (.k (.i .i64 0))⟩])
  (.seq (rg false [⟨some 5, none, .mv (.t 0)⟩, ⟨some 6, none, .mv (.t 1)⟩, ⟨some 7, none, .call fn_internal_stringslite_Index [(.t 5), (.t 6)]⟩, ⟨some 4, none, .mv (.t 7)⟩])
  .ret))⟩
noncomputable def c_strings_explode_l0 : AC :=
  (.seq (.seq (rg false [⟨some 22, none, .mv (.t 7)⟩, ⟨some 23, none, .mv (.t 1)⟩, ⟨some 24, none, .bin .sub (.t 23) (.k (.i .i64 1))⟩, ⟨some 25, none, .bin .lss (.t 22) (.t 24)⟩])
  (.cond (.t 25)
   .skip
   (.exit 0)))
  (.seq (.blk 1
   (.seq (rg false [⟨some 29, none, .mv (.t 0)⟩, ⟨some 30, none, .call fn_unicode_utf8_DecodeRuneInString [(.t 29)]⟩, ⟨some 28, none, .mv (.t 30)⟩, ⟨some 31, none, .ext (.t 28) 0⟩, ⟨some 32, none, .ext (.t 28) 1⟩, ⟨some 8, none, .mv (.t 31)⟩, ⟨some 9, none, .mv (.t 32)⟩])
   (.seq (rg false [⟨some 33, none, .mv (.t 6)⟩, ⟨some 34, none, .mv (.t 7)⟩, ⟨some 35, none, .mv (.t 0)⟩, ⟨some 36, none, .mv (.t 9)⟩, ⟨some 37, none, .sls (.t 35) none (some (.t 36))⟩, ⟨some 38, none, .ias 1 (.t 33) (.t 34)⟩, ⟨none, none, .st 1 (.t 38) (.t 37)⟩])
   (rg false [⟨some 39, none, .mv (.t 0)⟩, ⟨some 40, none, .mv (.t 9)⟩, ⟨some 41, none, .sls (.t 39) (some (.t 40)) none⟩, ⟨some 0, none, .mv (.t 41)⟩]))))
  (rg false [⟨some 26, none, .mv (.t 7)⟩, ⟨some 27, none, .bin .add (.t 26) (.k (.i .i64 1))⟩, ⟨some 7, none, .mv (.t 27)⟩])))
noncomputable def c_strings_explode : AFn := ⟨false, 2, 50, [.tmp 4],
  (.seq (rg false [⟨some 4, none, .mv (.k (.nils))⟩])
  (.seq (rg false [⟨some 10, none, .mv (.t 0)⟩, ⟨some 11, none, .call fn_unicode_utf8_RuneCountInString [(.t 10)]⟩, ⟨some 5, none, .mv (.t 11)⟩])
  (.seq (.seq (rg false [⟨some 12, none, .mv (.t 1)⟩, ⟨some 13, none, .bin .lss (.t 12) (.k (.i .i64 0))⟩, ⟨some 14, none, .mv (.t 13)⟩, ⟨some 15, some (14, false), .mv (.t 1)⟩, ⟨some 16, some (14, false), .mv (.t 5)⟩, ⟨some 17, some (14, false), .bin .gtr (.t 15) (.t 16)⟩, ⟨some 18, none, .pick (.t 14) (.k (.b true)) (.t 17)⟩])
  (.cond (.t 18)
   (rg false [⟨some 19, none, .mv (.t 5)⟩, ⟨some 1, none, .mv (.t 19)⟩])
   .skip))
  (.seq (rg false [⟨some 20, none, .mv (.t 1)⟩, ⟨some 21, none, .mks 1 16 T.str.zc (.t 20) (.t 20)⟩, ⟨some 6, none, .mv (.t 21)⟩])
  (.seq (.seq (rg false [⟨some 7, none, .mv (.k (.i .i64 0))⟩])
  (.blk 0
   (.loop [0, 1, 6, 7] c_strings_explode_l0)))
  (.seq (.seq (rg false [⟨some 42, none, .mv (.t 1)⟩, ⟨some 43, none, .bin .gtr (.t 42) (.k (.i .i64 0))⟩])
  (.cond (.t 43)
   (rg false [⟨some 44, none, .mv (.t 6)⟩, ⟨some 45, none, .mv (.t 1)⟩, ⟨some 46, none, .bin .sub (.t 45) (.k (.i .i64 1))⟩, ⟨some 47, none, .mv (.t 0)⟩, ⟨some 48, none, .ias 1 (.t 44) (.t 46)⟩, ⟨none, none, .st 1 (.t 48) (.t 47)⟩])
   .skip))
  (.seq (rg false [⟨some 49, none, .mv (.t 6)⟩, ⟨some 4, none, .mv (.t 49)⟩])
  .ret)))))))⟩
noncomputable def c_strings_Count_l0 : AC :=
  (.blk 1
   (.seq (rg false [⟨some 20, none, .mv (.t 0)⟩, ⟨some 21, none, .mv (.t 1)⟩, ⟨some 22, none, .call fn_strings_Index [(.t 20), (.t 21)]⟩, ⟨some 6, none, .mv (.t 22)⟩])
   (.seq (.seq (rg false [⟨some 23, none, .mv (.t 6)⟩, ⟨some 24, none, .bin .eql (.t 23) (.k (.i .i64 (-1)))⟩])
   (.cond (.t 24)
    (.seq (rg false [⟨some 25, none, .mv (.t 5)⟩, ⟨some 4, none, .mv (.t 25)⟩])
    .ret)
    .skip))
   (.seq (rg false [⟨some 26, none, .mv (.t 5)⟩, ⟨some 27, none, .bin .add (.t 26) (.k (.i .i64 1))⟩, ⟨some 5, none, .mv (.t 27)⟩])
   (rg false [⟨some 28, none, .mv (.t 0)⟩, ⟨some 29, none, .mv (.t 6)⟩, ⟨some 30, none, .mv (.t 1)⟩, ⟨some 31, none, .lens (.t 30)⟩, ⟨some 32, none, .bin .add (.t 29) (.t 31)⟩, ⟨some 33, none, .sls (.t 28) (some (.t 32)) none⟩, ⟨some 0, none, .mv (.t 33)⟩])))))
noncomputable def c_strings_Count : AFn := ⟨false, 2, 34, [.tmp 4],
  (.seq (rg false [⟨some 4, none, .mv (.k (.i .i64 0))⟩])
  (.seq (.seq (rg false [⟨some 7, none, .mv (.t 1)⟩, ⟨some 8, none, .lens (.t 7)⟩, ⟨some 9, none, .bin .eql (.t 8) (.k (.i .i64 0))⟩])
  (.cond (.t 9)
   (.seq (rg false [⟨some 10, none, .mv (.t 0)⟩, ⟨some 11, none, .call fn_unicode_utf8_RuneCountInString [(.t 10)]⟩, ⟨some 12, none, .bin .add (.t 11) (.k (.i .i64 1))⟩, ⟨some 4, none, .mv (.t 12)⟩])
   .ret)
   .skip))
  (.seq (.seq (rg false [⟨some 13, none, .mv (.t 1)⟩, ⟨some 14, none, .lens (.t 13)⟩, ⟨some 15, none, .bin .eql (.t 14) (.k (.i .i64 1))⟩])
  (.cond (.t 15)
   (.seq (rg false [⟨some 16, none, .mv (.t 0)⟩, ⟨some 17, none, .mv (.t 1)⟩, ⟨some 18, none, .ixs (.t 17) (.k (.i .i64 0))⟩, ⟨some 19, none, .call fn_internal_bytealg_CountString [(.t 16), (.t 18)]⟩, ⟨some 4, none, .mv (.t 19)⟩])
   .ret)
   .skip))
  (.seq (rg false [⟨some 5, none, .mv (.k (.i .i64 0))⟩])
  (.blk 0
   (.loop [0, 1, 5] c_strings_Count_l0))))))⟩
noncomputable def c_internal_stringslite_Index_l0 : AC :=
  (.seq (.seq (rg false [⟨some 57, none, .mv (.t 8)⟩, ⟨some 58, none, .mv (.t 9)⟩, ⟨some 59, none, .bin .lss (.t 57) (.t 58)⟩])
  (.cond (.t 59)
   .skip
   (.exit 1)))
  (.blk 2
   (.seq (.seq (rg false [⟨some 60, none, .mv (.t 0)⟩, ⟨some 61, none, .mv (.t 8)⟩, ⟨some 62, none, .ixs (.t 60) (.t 61)⟩, ⟨some 63, none, .mv (.t 6)⟩, ⟨some 64, none, .bin .neq (.t 62) (.t 63)⟩])
   (.cond (.t 64)
    (.seq (rg false [⟨some 65, none, .mv (.t 0)⟩, ⟨some 66, none, .mv (.t 8)⟩, ⟨some 67, none, .bin .add (.t 66) (.k (.i .i64 1))⟩, ⟨some 68, none, .mv (.t 9)⟩, ⟨some 69, none, .sls (.t 65) (some (.t 67)) (some (.t 68))⟩, ⟨some 70, none, .mv (.t 6)⟩, ⟨some 71, none, .call fn_internal_stringslite_IndexByte [(.t 69), (.t 70)]⟩, ⟨some 11, none, .mv (.t 71)⟩])
    (.seq (.seq (rg false [⟨some 72, none, .mv (.t 11)⟩, ⟨some 73, none, .bin .lss (.t 72) (.k (.i .i64 0))⟩])
    (.cond (.t 73)
     (.seq (rg false [⟨some 4, none, .mv (.k (.i .i64 (-1)))⟩])
     .ret)
     .skip))
    (rg false [⟨some 74, none, .mv (.t 8)⟩, ⟨some 75, none, .mv (.t 11)⟩, ⟨some 76, none, .bin .add (.t 75) (.k (.i .i64 1))⟩, ⟨some 77, none, .bin .add (.t 74) (.t 76)⟩, ⟨some 8, none, .mv (.t 77)⟩])))
    .skip))
   (.seq (.seq (rg false [⟨some 78, none, .mv (.t 0)⟩, ⟨some 79, none, .mv (.t 8)⟩, ⟨some 80, none, .bin .add (.t 79) (.k (.i .i64 1))⟩, ⟨some 81, none, .ixs (.t 78) (.t 80)⟩, ⟨some 82, none, .mv (.t 7)⟩, ⟨some 83, none, .bin .eql (.t 81) (.t 82)⟩, ⟨some 84, none, .mv (.t 83)⟩, ⟨some 85, some (84, true), .mv (.t 0)⟩, ⟨some 86, some (84, true), .mv (.t 8)⟩, ⟨some 87, some (84, true), .mv (.t 8)⟩, ⟨some 88, some (84, true), .mv (.t 5)⟩, ⟨some 89, some (84, true), .bin .add (.t 87) (.t 88)⟩, ⟨some 90, some (84, true), .sls (.t 85) (some (.t 86)) (some (.t 89))⟩, ⟨some 91, some (84, true), .mv (.t 1)⟩, ⟨some 92, some (84, true), .bin .eql (.t 90) (.t 91)⟩, ⟨some 93, none, .pick (.t 84) (.t 92) (.k (.b false))⟩])
   (.cond (.t 93)
    (.seq (rg false [⟨some 94, none, .mv (.t 8)⟩, ⟨some 4, none, .mv (.t 94)⟩])
    .ret)
    .skip))
   (.seq (rg false [⟨some 95, none, .mv (.t 8)⟩, ⟨some 96, none, .bin .add (.t 95) (.k (.i .i64 1))⟩, ⟨some 8, none, .mv (.t 96)⟩])
   (.seq (rg false [⟨some 97, none, .mv (.t 10)⟩, ⟨some 98, none, .bin .add (.t 97) (.k (.i .i64 1))⟩, ⟨some 10, none, .mv (.t 98)⟩])
   (.seq (rg false [⟨some 99, none, .mv (.t 5)⟩, ⟨some 100, none, .ld false 1 (.g 0)⟩, ⟨some 101, none, .bin .leq (.t 99) (.t 100)⟩, ⟨some 102, none, .mv (.t 101)⟩, ⟨some 103, some (102, true), .mv (.t 10)⟩, ⟨some 104, some (102, true), .mv (.t 8)⟩, ⟨some 105, some (102, true), .call fn_internal_bytealg_Cutover [(.t 104)]⟩, ⟨some 106, some (102, true), .bin .gtr (.t 103) (.t 105)⟩, ⟨some 107, none, .pick (.t 102) (.t 106) (.k (.b false))⟩])
   (.cond (.t 107)
    (.seq (rg false [⟨some 108, none, .mv (.t 0)⟩, ⟨some 109, none, .mv (.t 8)⟩, ⟨some 110, none, .sls (.t 108) (some (.t 109)) none⟩, ⟨some 111, none, .mv (.t 1)⟩, ⟨some 112, none, .call fn_internal_bytealg_IndexString [(.t 110), (.t 111)]⟩, ⟨some 12, none, .mv (.t 112)⟩])
    (.seq (.seq (rg false [⟨some 113, none, .mv (.t 12)⟩, ⟨some 114, none, .bin .geq (.t 113) (.k (.i .i64 0))⟩])
    (.cond (.t 114)
     (.seq (rg false [⟨some 115, none, .mv (.t 12)⟩, ⟨some 116, none, .mv (.t 8)⟩, ⟨some 117, none, .bin .add (.t 115) (.t 116)⟩, ⟨some 4, none, .mv (.t 117)⟩])
     .ret)
     .skip))
    (.seq (rg false [⟨some 4, none, .mv (.k (.i .i64 (-1)))⟩])
    .ret)))
    (.seq (rg false [⟨some 118, none, .mv (.t 5)⟩, ⟨some 119, none, .ld false 1 (.g 0)⟩, ⟨some 120, none, .bin .gtr (.t 118) (.t 119)⟩, ⟨some 121, none, .mv (.t 120)⟩, ⟨some 122, some (121, true), .mv (.t 10)⟩, ⟨some 123, some (121, true), .mv (.t 8)⟩, ⟨some 124, some (121, true), .bin .shr (.t 123) (.k (.i .u64 4))⟩, ⟨some 125, some (121, true), .bin .add (.k (.i .i64 4)) (.t 124)⟩, ⟨some 126, some (121, true), .bin .geq (.t 122) (.t 125)⟩, ⟨some 127, none, .pick (.t 121) (.t 126) (.k (.b false))⟩, ⟨some 128, none, .mv (.t 127)⟩, ⟨some 129, some (128, true), .mv (.t 8)⟩, ⟨some 130, some (128, true), .mv (.t 9)⟩, ⟨some 131, some (128, true), .bin .lss (.t 129) (.t 130)⟩, ⟨some 132, none, .pick (.t 128) (.t 131) (.k (.b false))⟩])
    (.cond (.t 132)
     (.seq (rg false [⟨some 133, none, .mv (.t 0)⟩, ⟨some 134, none, .mv (.t 8)⟩, ⟨some 135, none, .sls (.t 133) (some (.t 134)) none⟩, ⟨some 136, none, .mv (.t 1)⟩, ⟨some 137, none, .call fn_internal_bytealg_IndexRabinKarp_string [(.t 135), (.t 136)]⟩, ⟨some 13, none, .mv (.t 137)⟩])
     (.seq (.seq (rg false [⟨some 138, none, .mv (.t 13)⟩, ⟨some 139, none, .bin .lss (.t 138) (.k (.i .i64 0))⟩])
     (.cond (.t 139)
      (.seq (rg false [⟨some 4, none, .mv (.k (.i .i64 (-1)))⟩])
      .ret)
      .skip))
     (.seq (rg false [⟨some 140, none, .mv (.t 8)⟩, ⟨some 141, none, .mv (.t 13)⟩, ⟨some 142, none, .bin .add (.t 140) (.t 141)⟩, ⟨some 4, none, .mv (.t 142)⟩])
     .ret)))
     .skip))))))))))
noncomputable def c_internal_stringslite_Index : AFn := ⟨false, 2, 143, [.tmp 4],
  (.seq (rg false [⟨some 4, none, .mv (.k (.i .i64 0))⟩])
  (.seq (rg false [⟨some 14, none, .mv (.t 1)⟩, ⟨some 15, none, .lens (.t 14)⟩, ⟨some 5, none, .mv (.t 15)⟩])
  (.seq (.blk 0
   (.seq (rg false [⟨some 17, none, .mv (.t 5)⟩, ⟨some 18, none, .bin .eql (.t 17) (.k (.i .i64 0))⟩, ⟨some 19, none, .mv (.t 18)⟩, ⟨some 20, some (19, false), .mv (.t 1)⟩, ⟨some 21, some (19, false), .mv (.t 0)⟩, ⟨some 22, some (19, false), .bin .eql (.t 20) (.t 21)⟩, ⟨some 23, none, .pick (.t 19) (.k (.b true)) (.t 22)⟩, ⟨some 16, none, .mv (.t 23)⟩])
   (.cond (.t 16)
    (.seq (rg false [⟨some 4, none, .mv (.k (.i .i64 0))⟩])
    .ret)
    (.seq (rg false [⟨some 25, none, .mv (.t 5)⟩, ⟨some 26, none, .bin .eql (.t 25) (.k (.i .i64 1))⟩, ⟨some 24, none, .mv (.t 26)⟩])
    (.cond (.t 24)
     (.seq (rg false [⟨some 27, none, .mv (.t 0)⟩, ⟨some 28, none, .mv (.t 1)⟩, ⟨some 29, none, .ixs (.t 28) (.k (.i .i64 0))⟩, ⟨some 30, none, .call fn_internal_stringslite_IndexByte [(.t 27), (.t 29)]⟩, ⟨some 4, none, .mv (.t 30)⟩])
     .ret)
     (.seq (rg false [⟨some 32, none, .mv (.t 5)⟩, ⟨some 33, none, .mv (.t 0)⟩, ⟨some 34, none, .lens (.t 33)⟩, ⟨some 35, none, .bin .geq (.t 32) (.t 34)⟩, ⟨some 31, none, .mv (.t 35)⟩])
     (.cond (.t 31)
      (.seq (rg false [⟨some 4, none, .mv (.k (.i .i64 (-1)))⟩])
      .ret)
      (.seq (rg false [⟨some 37, none, .mv (.t 5)⟩, ⟨some 38, none, .ld false 1 (.g 0)⟩, ⟨some 39, none, .bin .leq (.t 37) (.t 38)⟩, ⟨some 40, none, .mv (.t 39)⟩, ⟨some 41, some (40, true), .mv (.t 0)⟩, ⟨some 42, some (40, true), .lens (.t 41)⟩, ⟨some 43, some (40, true), .bin .leq (.t 42) (.k (.i .i64 64))⟩, ⟨some 44, none, .pick (.t 40) (.t 43) (.k (.b false))⟩, ⟨some 36, none, .mv (.t 44)⟩])
      (.cond (.t 36)
       (.seq (rg false [⟨some 45, none, .mv (.t 0)⟩, ⟨some 46, none, .mv (.t 1)⟩, ⟨some 47, none, .call fn_internal_bytealg_IndexString [(.t 45), (.t 46)]⟩, ⟨some 4, none, .mv (.t 47)⟩])
       .ret)
       .skip)))))))))
  (.seq (rg false [⟨some 48, none, .mv (.t 1)⟩, ⟨some 49, none, .ixs (.t 48) (.k (.i .i64 0))⟩, ⟨some 6, none, .mv (.t 49)⟩])
  (.seq (rg false [⟨some 50, none, .mv (.t 1)⟩, ⟨some 51, none, .ixs (.t 50) (.k (.i .i64 1))⟩, ⟨some 7, none, .mv (.t 51)⟩])
  (.seq (rg false [⟨some 8, none, .mv (.k (.i .i64 0))⟩])
  (.seq (rg false [⟨some 52, none, .mv (.t 0)⟩, ⟨some 53, none, .lens (.t 52)⟩, ⟨some 54, none, .mv (.t 5)⟩, ⟨some 55, none, .bin .sub (.t 53) (.t 54)⟩, ⟨some 56, none, .bin .add (.t 55) (.k (.i .i64 1))⟩, ⟨some 9, none, .mv (.t 56)⟩])
  (.seq (rg false [⟨some 10, none, .mv (.k (.i .i64 0))⟩])
  (.seq (.blk 1
   (.loop [0, 1, 5, 6, 7, 8, 9, 10] c_internal_stringslite_Index_l0))
  (.seq (rg false [⟨some 4, none, .mv (.k (.i .i64 (-1)))⟩])
  .ret))))))))))⟩
noncomputable def c_unicode_utf8_DecodeRuneInString : AFn := ⟨false, 1, 19, [.tmp 2, .tmp 3],
  (.seq (rg false [⟨some 2, none, .mv (.k (.i .i32 0))⟩, ⟨some 3, none, .mv (.k (.i .i64 0))⟩])
  (.seq (.seq (rg false [⟨some 4, none, .mv (.t 0)⟩, ⟨some 5, none, .bin .neq (.t 4) (.k (.s []))⟩, ⟨some 6, none, .mv (.t 5)⟩, ⟨some 7, some (6, true), .mv (.t 0)⟩, ⟨some 8, some (6, true), .ixs (.t 7) (.k (.i .i64 0))⟩, ⟨some 9, some (6, true), .bin .lss (.t 8) (.k (.i .u8 128))⟩, ⟨some 10, none, .pick (.t 6) (.t 9) (.k (.b false))⟩])
  (.cond (.t 10)
   (.seq (rg false [⟨some 11, none, .mv (.t 0)⟩, ⟨some 12, none, .ixs (.t 11) (.k (.i .i64 0))⟩, ⟨some 13, none, .cvi .i32 (.t 12)⟩, ⟨some 2, none, .mv (.t 13)⟩, ⟨some 3, none, .mv (.k (.i .i64 1))⟩])
   .ret)
   (rg false [⟨some 15, none, .mv (.t 0)⟩, ⟨some 16, none, .call fn_unicode_utf8_decodeRuneInStringSlow [(.t 15)]⟩, ⟨some 14, none, .mv (.t 16)⟩, ⟨some 17, none, .ext (.t 14) 0⟩, ⟨some 18, none, .ext (.t 14) 1⟩, ⟨some 2, none, .mv (.t 17)⟩, ⟨some 3, none, .mv (.t 18)⟩])))
  .ret))⟩
noncomputable def c_unicode_utf8_RuneCountInString_l0 : AC :=
  (.seq (rg false [⟨some 5, none, .nxt (.t 4)⟩, ⟨some 6, none, .ext (.t 5) 0⟩])
  (.seq (.cond (.t 6)
   .skip
   (.exit 0))
  (.blk 1
   (rg false [⟨some 7, none, .mv (.t 2)⟩, ⟨some 8, none, .bin .add (.t 7) (.k (.i .i64 1))⟩, ⟨some 2, none, .mv (.t 8)⟩]))))
noncomputable def c_unicode_utf8_RuneCountInString : AFn := ⟨false, 1, 10, [.tmp 2],
  (.seq (rg false [⟨some 2, none, .mv (.k (.i .i64 0))⟩])
  (.seq (.seq (rg false [⟨some 3, none, .mv (.t 0)⟩, ⟨some 4, none, .rng (.t 3)⟩])
  (.blk 0
   (.loop [2, 4] c_unicode_utf8_RuneCountInString_l0)))
  (.seq (rg false [⟨some 9, none, .mv (.t 2)⟩, ⟨some 2, none, .mv (.t 9)⟩])
  .ret)))⟩
noncomputable def c_internal_bytealg_Cutover : AFn := ⟨false, 1, 6, [.tmp 2],
  (.seq (rg false [⟨some 2, none, .mv (.k (.i .i64 0))⟩])
  (.seq (rg false [⟨some 3, none, .mv (.t 0)⟩, ⟨some 4, none, .bin .add (.t 3) (.k (.i .i64 16))⟩, ⟨some 5, none, .bin .quo (.t 4) (.k (.i .i64 8))⟩, ⟨some 2, none, .mv (.t 5)⟩])
  .ret))⟩
noncomputable def c_internal_bytealg_IndexRabinKarp_string_l0 : AC :=
  (.seq (.seq (rg false [⟨some 18, none, .mv (.t 9)⟩, ⟨some 19, none, .mv (.t 7)⟩, ⟨some 20, none, .bin .lss (.t 18) (.t 19)⟩])
  (.cond (.t 20)
   .skip
   (.exit 0)))
  (.seq (.blk 1
   (rg false [⟨some 23, none, .mv (.t 8)⟩, ⟨some 24, none, .bin .mul (.t 23) (.k (.i .u32 16777619))⟩, ⟨some 25, none, .mv (.t 0)⟩, ⟨some 26, none, .mv (.t 9)⟩, ⟨some 27, none, .ixs (.t 25) (.t 26)⟩, ⟨some 28, none, .cvi .u32 (.t 27)⟩, ⟨some 29, none, .bin .add (.t 24) (.t 28)⟩, ⟨some 8, none, .mv (.t 29)⟩]))
  (rg false [⟨some 21, none, .mv (.t 9)⟩, ⟨some 22, none, .bin .add (.t 21) (.k (.i .i64 1))⟩, ⟨some 9, none, .mv (.t 22)⟩])))
noncomputable def c_internal_bytealg_IndexRabinKarp_string_l1 : AC :=
  (.seq (.seq (rg false [⟨some 41, none, .mv (.t 10)⟩, ⟨some 42, none, .mv (.t 0)⟩, ⟨some 43, none, .lens (.t 42)⟩, ⟨some 44, none, .bin .lss (.t 41) (.t 43)⟩])
  (.cond (.t 44)
   .skip
   (.exit 2)))
  (.blk 3
   (.seq (rg false [⟨some 45, none, .mv (.t 8)⟩, ⟨some 46, none, .bin .mul (.t 45) (.k (.i .u32 16777619))⟩, ⟨some 8, none, .mv (.t 46)⟩])
   (.seq (rg false [⟨some 47, none, .mv (.t 8)⟩, ⟨some 48, none, .mv (.t 0)⟩, ⟨some 49, none, .mv (.t 10)⟩, ⟨some 50, none, .ixs (.t 48) (.t 49)⟩, ⟨some 51, none, .cvi .u32 (.t 50)⟩, ⟨some 52, none, .bin .add (.t 47) (.t 51)⟩, ⟨some 8, none, .mv (.t 52)⟩])
   (.seq (rg false [⟨some 53, none, .mv (.t 8)⟩, ⟨some 54, none, .mv (.t 6)⟩, ⟨some 55, none, .mv (.t 0)⟩, ⟨some 56, none, .mv (.t 10)⟩, ⟨some 57, none, .mv (.t 7)⟩, ⟨some 58, none, .bin .sub (.t 56) (.t 57)⟩, ⟨some 59, none, .ixs (.t 55) (.t 58)⟩, ⟨some 60, none, .cvi .u32 (.t 59)⟩, ⟨some 61, none, .bin .mul (.t 54) (.t 60)⟩, ⟨some 62, none, .bin .sub (.t 53) (.t 61)⟩, ⟨some 8, none, .mv (.t 62)⟩])
   (.seq (rg false [⟨some 63, none, .mv (.t 10)⟩, ⟨some 64, none, .bin .add (.t 63) (.k (.i .i64 1))⟩, ⟨some 10, none, .mv (.t 64)⟩])
   (.seq (rg false [⟨some 65, none, .mv (.t 8)⟩, ⟨some 66, none, .mv (.t 5)⟩, ⟨some 67, none, .bin .eql (.t 65) (.t 66)⟩, ⟨some 68, none, .mv (.t 67)⟩, ⟨some 69, some (68, true), .mv (.t 0)⟩, ⟨some 70, some (68, true), .mv (.t 10)⟩, ⟨some 71, some (68, true), .mv (.t 7)⟩, ⟨some 72, some (68, true), .bin .sub (.t 70) (.t 71)⟩, ⟨some 73, some (68, true), .mv (.t 10)⟩, ⟨some 74, some (68, true), .sls (.t 69) (some (.t 72)) (some (.t 73))⟩, ⟨some 75, some (68, true), .mv (.t 1)⟩, ⟨some 76, some (68, true), .bin .eql (.t 74) (.t 75)⟩, ⟨some 77, none, .pick (.t 68) (.t 76) (.k (.b false))⟩])
   (.cond (.t 77)
    (.seq (rg false [⟨some 78, none, .mv (.t 10)⟩, ⟨some 79, none, .mv (.t 7)⟩, ⟨some 80, none, .bin .sub (.t 78) (.t 79)⟩, ⟨some 4, none, .mv (.t 80)⟩])
    .ret)
    .skip))))))))
noncomputable def c_internal_bytealg_IndexRabinKarp_string : AFn := ⟨false, 2, 81, [.tmp 4],
  (.seq (rg false [⟨some 4, none, .mv (.k (.i .i64 0))⟩])
  (.seq (rg false [⟨some 12, none, .mv (.t 1)⟩, ⟨some 13, none, .call fn_internal_bytealg_hashStr_string [(.t 12)]⟩, ⟨some 11, none, .mv (.t 13)⟩, ⟨some 14, none, .ext (.t 11) 0⟩, ⟨some 15, none, .ext (.t 11) 1⟩, ⟨some 5, none, .mv (.t 14)⟩, ⟨some 6, none, .mv (.t 15)⟩])
  (.seq (rg false [⟨some 16, none, .mv (.t 1)⟩, ⟨some 17, none, .lens (.t 16)⟩, ⟨some 7, none, .mv (.t 17)⟩])
  (.seq (rg false [⟨some 8, none, .mv (.k (.i .u32 0))⟩])
  (.seq (.seq (rg false [⟨some 9, none, .mv (.k (.i .i64 0))⟩])
  (.blk 0
   (.loop [0, 1, 5, 6, 7, 8, 9] c_internal_bytealg_IndexRabinKarp_string_l0)))
  (.seq (.seq (rg false [⟨some 30, none, .mv (.t 8)⟩, ⟨some 31, none, .mv (.t 5)⟩, ⟨some 32, none, .bin .eql (.t 30) (.t 31)⟩, ⟨some 33, none, .mv (.t 32)⟩, ⟨some 34, some (33, true), .mv (.t 0)⟩, ⟨some 35, some (33, true), .mv (.t 7)⟩, ⟨some 36, some (33, true), .sls (.t 34) none (some (.t 35))⟩, ⟨some 37, some (33, true), .mv (.t 1)⟩, ⟨some 38, some (33, true), .bin .eql (.t 36) (.t 37)⟩, ⟨some 39, none, .pick (.t 33) (.t 38) (.k (.b false))⟩])
  (.cond (.t 39)
   (.seq (rg false [⟨some 4, none, .mv (.k (.i .i64 0))⟩])
   .ret)
   .skip))
  (.seq (.seq (rg false [⟨some 40, none, .mv (.t 7)⟩, ⟨some 10, none, .mv (.t 40)⟩])
  (.blk 2
   (.loop [0, 1, 5, 6, 7, 8, 10] c_internal_bytealg_IndexRabinKarp_string_l1)))
  (.seq (rg false [⟨some 4, none, .mv (.k (.i .i64 (-1)))⟩])
  .ret))))))))⟩
noncomputable def c_unicode_utf8_decodeRuneInStringSlow : AFn := ⟨false, 1, 117, [.tmp 2, .tmp 3],
  (.seq (rg false [⟨some 2, none, .mv (.k (.i .i32 0))⟩, ⟨some 3, none, .mv (.k (.i .i64 0))⟩])
  (.seq (rg false [⟨some 13, none, .mv (.t 0)⟩, ⟨some 14, none, .lens (.t 13)⟩, ⟨some 4, none, .mv (.t 14)⟩])
  (.seq (.seq (rg false [⟨some 15, none, .mv (.t 4)⟩, ⟨some 16, none, .bin .lss (.t 15) (.k (.i .i64 1))⟩])
  (.cond (.t 16)
   (.seq (rg false [⟨some 2, none, .mv (.k (.i .i32 65533))⟩, ⟨some 3, none, .mv (.k (.i .i64 0))⟩])
   .ret)
   .skip))
  (.seq (rg false [⟨some 17, none, .mv (.t 0)⟩, ⟨some 18, none, .ixs (.t 17) (.k (.i .i64 0))⟩, ⟨some 5, none, .mv (.t 18)⟩])
  (.seq (rg false [⟨some 19, none, .mv (.t 5)⟩, ⟨some 20, none, .iaa 256 1 (.g 1) (.t 19)⟩, ⟨some 21, none, .ld false 1 (.t 20)⟩, ⟨some 6, none, .mv (.t 21)⟩])
  (.seq (.seq (rg false [⟨some 22, none, .mv (.t 6)⟩, ⟨some 23, none, .bin .geq (.t 22) (.k (.i .u8 240))⟩])
  (.cond (.t 23)
   (.seq (rg false [⟨some 24, none, .mv (.t 6)⟩, ⟨some 25, none, .cvi .i32 (.t 24)⟩, ⟨some 26, none, .bin .shl (.t 25) (.k (.i .u64 31))⟩, ⟨some 27, none, .bin .shr (.t 26) (.k (.i .u64 31))⟩, ⟨some 7, none, .mv (.t 27)⟩])
   (.seq (rg false [⟨some 28, none, .mv (.t 0)⟩, ⟨some 29, none, .ixs (.t 28) (.k (.i .i64 0))⟩, ⟨some 30, none, .cvi .i32 (.t 29)⟩, ⟨some 31, none, .mv (.t 7)⟩, ⟨some 32, none, .bin .andNot (.t 30) (.t 31)⟩, ⟨some 33, none, .mv (.t 7)⟩, ⟨some 34, none, .bin .and (.k (.i .i32 65533)) (.t 33)⟩, ⟨some 35, none, .bin .or (.t 32) (.t 34)⟩, ⟨some 2, none, .mv (.t 35)⟩, ⟨some 3, none, .mv (.k (.i .i64 1))⟩])
   .ret))
   .skip))
  (.seq (rg false [⟨some 36, none, .mv (.t 6)⟩, ⟨some 37, none, .bin .and (.t 36) (.k (.i .u8 7))⟩, ⟨some 38, none, .cvi .i64 (.t 37)⟩, ⟨some 8, none, .mv (.t 38)⟩])
  (.seq (rg false [⟨some 39, none, .mv (.t 6)⟩, ⟨some 40, none, .bin .shr (.t 39) (.k (.i .u64 4))⟩, ⟨some 41, none, .iaa 16 2 (.g 2) (.t 40)⟩, ⟨some 42, none, .ld true 2 (.t 41)⟩, ⟨some 9, none, .alloc T_unicode_utf8_acceptRange.zc⟩, ⟨none, none, .st 2 (.t 9) (.t 42)⟩])
  (.seq (.seq (rg false [⟨some 43, none, .mv (.t 4)⟩, ⟨some 44, none, .mv (.t 8)⟩, ⟨some 45, none, .bin .lss (.t 43) (.t 44)⟩])
  (.cond (.t 45)
   (.seq (rg false [⟨some 2, none, .mv (.k (.i .i32 65533))⟩, ⟨some 3, none, .mv (.k (.i .i64 1))⟩])
   .ret)
   .skip))
  (.seq (rg false [⟨some 46, none, .mv (.t 0)⟩, ⟨some 47, none, .ixs (.t 46) (.k (.i .i64 1))⟩, ⟨some 10, none, .mv (.t 47)⟩])
  (.seq (.seq (rg false [⟨some 48, none, .mv (.t 10)⟩, ⟨some 49, none, .fa 0 (.t 9)⟩, ⟨some 50, none, .ld false 1 (.t 49)⟩, ⟨some 51, none, .bin .lss (.t 48) (.t 50)⟩, ⟨some 52, none, .mv (.t 51)⟩, ⟨some 53, some (52, false), .fa 1 (.t 9)⟩, ⟨some 54, some (52, false), .ld false 1 (.t 53)⟩, ⟨some 55, some (52, false), .mv (.t 10)⟩, ⟨some 56, some (52, false), .bin .lss (.t 54) (.t 55)⟩, ⟨some 57, none, .pick (.t 52) (.k (.b true)) (.t 56)⟩])
  (.cond (.t 57)
   (.seq (rg false [⟨some 2, none, .mv (.k (.i .i32 65533))⟩, ⟨some 3, none, .mv (.k (.i .i64 1))⟩])
   .ret)
   .skip))
  (.seq (.seq (rg false [⟨some 58, none, .mv (.t 8)⟩, ⟨some 59, none, .bin .leq (.t 58) (.k (.i .i64 2))⟩])
  (.cond (.t 59)
   (.seq (rg false [⟨some 60, none, .mv (.t 5)⟩, ⟨some 61, none, .bin .and (.t 60) (.k (.i .u8 31))⟩, ⟨some 62, none, .cvi .i32 (.t 61)⟩, ⟨some 63, none, .bin .shl (.t 62) (.k (.i .u64 6))⟩, ⟨some 64, none, .mv (.t 10)⟩, ⟨some 65, none, .bin .and (.t 64) (.k (.i .u8 63))⟩, ⟨some 66, none, .cvi .i32 (.t 65)⟩, ⟨some 67, none, .bin .or (.t 63) (.t 66)⟩, ⟨some 2, none, .mv (.t 67)⟩, ⟨some 3, none, .mv (.k (.i .i64 2))⟩])
   .ret)
   .skip))
  (.seq (rg false [⟨some 68, none, .mv (.t 0)⟩, ⟨some 69, none, .ixs (.t 68) (.k (.i .i64 2))⟩, ⟨some 11, none, .mv (.t 69)⟩])
  (.seq (.seq (rg false [⟨some 70, none, .mv (.t 11)⟩, ⟨some 71, none, .bin .lss (.t 70) (.k (.i .u8 128))⟩, ⟨some 72, none, .mv (.t 71)⟩, ⟨some 73, some (72, false), .mv (.t 11)⟩, ⟨some 74, some (72, false), .bin .lss (.k (.i .u8 191)) (.t 73)⟩, ⟨some 75, none, .pick (.t 72) (.k (.b true)) (.t 74)⟩])
  (.cond (.t 75)
   (.seq (rg false [⟨some 2, none, .mv (.k (.i .i32 65533))⟩, ⟨some 3, none, .mv (.k (.i .i64 1))⟩])
   .ret)
   .skip))
  (.seq (.seq (rg false [⟨some 76, none, .mv (.t 8)⟩, ⟨some 77, none, .bin .leq (.t 76) (.k (.i .i64 3))⟩])
  (.cond (.t 77)
   (.seq (rg false [⟨some 78, none, .mv (.t 5)⟩, ⟨some 79, none, .bin .and (.t 78) (.k (.i .u8 15))⟩, ⟨some 80, none, .cvi .i32 (.t 79)⟩, ⟨some 81, none, .bin .shl (.t 80) (.k (.i .u64 12))⟩, ⟨some 82, none, .mv (.t 10)⟩, ⟨some 83, none, .bin .and (.t 82) (.k (.i .u8 63))⟩, ⟨some 84, none, .cvi .i32 (.t 83)⟩, ⟨some 85, none, .bin .shl (.t 84) (.k (.i .u64 6))⟩, ⟨some 86, none, .bin .or (.t 81) (.t 85)⟩, ⟨some 87, none, .mv (.t 11)⟩, ⟨some 88, none, .bin .and (.t 87) (.k (.i .u8 63))⟩, ⟨some 89, none, .cvi .i32 (.t 88)⟩, ⟨some 90, none, .bin .or (.t 86) (.t 89)⟩, ⟨some 2, none, .mv (.t 90)⟩, ⟨some 3, none, .mv (.k (.i .i64 3))⟩])
   .ret)
   .skip))
  (.seq (rg false [⟨some 91, none, .mv (.t 0)⟩, ⟨some 92, none, .ixs (.t 91) (.k (.i .i64 3))⟩, ⟨some 12, none, .mv (.t 92)⟩])
  (.seq (.seq (rg false [⟨some 93, none, .mv (.t 12)⟩, ⟨some 94, none, .bin .lss (.t 93) (.k (.i .u8 128))⟩, ⟨some 95, none, .mv (.t 94)⟩, ⟨some 96, some (95, false), .mv (.t 12)⟩, ⟨some 97, some (95, false), .bin .lss (.k (.i .u8 191)) (.t 96)⟩, ⟨some 98, none, .pick (.t 95) (.k (.b true)) (.t 97)⟩])
  (.cond (.t 98)
   (.seq (rg false [⟨some 2, none, .mv (.k (.i .i32 65533))⟩, ⟨some 3, none, .mv (.k (.i .i64 1))⟩])
   .ret)
   .skip))
  (.seq (rg false [⟨some 99, none, .mv (.t 5)⟩, ⟨some 100, none, .bin .and (.t 99) (.k (.i .u8 7))⟩, ⟨some 101, none, .cvi .i32 (.t 100)⟩, ⟨some 102, none, .bin .shl (.t 101) (.k (.i .u64 18))⟩, ⟨some 103, none, .mv (.t 10)⟩, ⟨some 104, none, .bin .and (.t 103) (.k (.i .u8 63))⟩, ⟨some 105, none, .cvi .i32 (.t 104)⟩, ⟨some 106, none, .bin .shl (.t 105) (.k (.i .u64 12))⟩, ⟨some 107, none, .bin .or (.t 102) (.t 106)⟩, ⟨some 108, none, .mv (.t 11)⟩, ⟨some 109, none, .bin .and (.t 108) (.k (.i .u8 63))⟩, ⟨some 110, none, .cvi .i32 (.t 109)⟩, ⟨some 111, none, .bin .shl (.t 110) (.k (.i .u64 6))⟩, ⟨some 112, none, .bin .or (.t 107) (.t 111)⟩, ⟨some 113, none, .mv (.t 12)⟩, ⟨some 114, none, .bin .and (.t 113) (.k (.i .u8 63))⟩, ⟨some 115, none, .cvi .i32 (.t 114)⟩, ⟨some 116, none, .bin .or (.t 112) (.t 115)⟩, ⟨some 2, none, .mv (.t 116)⟩, ⟨some 3, none, .mv (.k (.i .i64 4))⟩])
  .ret))))))))))))))))))⟩
noncomputable def c_internal_bytealg_hashStr_string_l0 : AC :=
  (.seq (.seq (rg false [⟨some 9, none, .mv (.t 5)⟩, ⟨some 10, none, .mv (.t 0)⟩, ⟨some 11, none, .lens (.t 10)⟩, ⟨some 12, none, .bin .lss (.t 9) (.t 11)⟩])
  (.cond (.t 12)
   .skip
   (.exit 0)))
  (.seq (.blk 1
   (rg false [⟨some 15, none, .mv (.t 4)⟩, ⟨some 16, none, .bin .mul (.t 15) (.k (.i .u32 16777619))⟩, ⟨some 17, none, .mv (.t 0)⟩, ⟨some 18, none, .mv (.t 5)⟩, ⟨some 19, none, .ixs (.t 17) (.t 18)⟩, ⟨some 20, none, .cvi .u32 (.t 19)⟩, ⟨some 21, none, .bin .add (.t 16) (.t 20)⟩, ⟨some 4, none, .mv (.t 21)⟩]))
  (rg false [⟨some 13, none, .mv (.t 5)⟩, ⟨some 14, none, .bin .add (.t 13) (.k (.i .i64 1))⟩, ⟨some 5, none, .mv (.t 14)⟩])))
noncomputable def c_internal_bytealg_hashStr_string_l1 : AC :=
  (.seq (.seq (rg false [⟨some 24, none, .mv (.t 8)⟩, ⟨some 25, none, .bin .gtr (.t 24) (.k (.i .i64 0))⟩])
  (.cond (.t 25)
   .skip
   (.exit 2)))
  (.seq (.blk 3
   (.seq (.seq (rg false [⟨some 28, none, .mv (.t 8)⟩, ⟨some 29, none, .bin .and (.t 28) (.k (.i .i64 1))⟩, ⟨some 30, none, .bin .neq (.t 29) (.k (.i .i64 0))⟩])
   (.cond (.t 30)
    (rg false [⟨some 31, none, .mv (.t 6)⟩, ⟨some 32, none, .mv (.t 7)⟩, ⟨some 33, none, .bin .mul (.t 31) (.t 32)⟩, ⟨some 6, none, .mv (.t 33)⟩])
    .skip))
   (rg false [⟨some 34, none, .mv (.t 7)⟩, ⟨some 35, none, .mv (.t 7)⟩, ⟨some 36, none, .bin .mul (.t 34) (.t 35)⟩, ⟨some 7, none, .mv (.t 36)⟩])))
  (rg false [⟨some 26, none, .mv (.t 8)⟩, ⟨some 27, none, .bin .shr (.t 26) (.k (.i .u64 1))⟩, ⟨some 8, none, .mv (.t 27)⟩])))
noncomputable def c_internal_bytealg_hashStr_string : AFn := ⟨false, 1, 39, [.tmp 2, .tmp 3],
  (.seq (rg false [⟨some 2, none, .mv (.k (.i .u32 0))⟩, ⟨some 3, none, .mv (.k (.i .u32 0))⟩])
  (.seq (rg false [⟨some 4, none, .mv (.k (.i .u32 0))⟩])
  (.seq (.seq (rg false [⟨some 5, none, .mv (.k (.i .i64 0))⟩])
  (.blk 0
   (.loop [0, 4, 5] c_internal_bytealg_hashStr_string_l0)))
  (.seq (rg false [⟨some 6, none, .mv (.k (.i .u32 1))⟩, ⟨some 7, none, .mv (.k (.i .u32 16777619))⟩])
  (.seq (.seq (rg false [⟨some 22, none, .mv (.t 0)⟩, ⟨some 23, none, .lens (.t 22)⟩, ⟨some 8, none, .mv (.t 23)⟩])
  (.blk 2
   (.loop [4, 6, 7, 8] c_internal_bytealg_hashStr_string_l1)))
  (.seq (rg false [⟨some 37, none, .mv (.t 4)⟩, ⟨some 38, none, .mv (.t 6)⟩, ⟨some 2, none, .mv (.t 37)⟩, ⟨some 3, none, .mv (.t 38)⟩])
  .ret))))))⟩
noncomputable def fnl : List (Nat × AFn) := [(fn_l06_LinesCut, c_l06_LinesCut),
  (fn_l06_alive, c_l06_alive),
  (fn_r06_Parts, c_r06_Parts),
  (fn_lines_Cut, c_lines_Cut),
  (fn_r06_Same, c_r06_Same),
  (fn_lines_Parts, c_lines_Parts),
  (fn_lines_Split, c_lines_Split),
  (fn_lines_Loose, c_lines_Loose),
  (fn_strings_IndexByte, c_strings_IndexByte),
  (fn_strings_HasSuffix, c_strings_HasSuffix),
  (fn_strings_Split, c_strings_Split),
  (fn_strings_TrimSuffix, c_strings_TrimSuffix),
  (fn_internal_stringslite_IndexByte, c_internal_stringslite_IndexByte),
  (fn_internal_stringslite_HasSuffix, c_internal_stringslite_HasSuffix),
  (fn_strings_genSplit, c_strings_genSplit),
  (fn_internal_stringslite_TrimSuffix, c_internal_stringslite_TrimSuffix),
  (fn_strings_Index, c_strings_Index),
  (fn_strings_explode, c_strings_explode),
  (fn_strings_Count, c_strings_Count),
  (fn_internal_stringslite_Index, c_internal_stringslite_Index),
  (fn_unicode_utf8_DecodeRuneInString, c_unicode_utf8_DecodeRuneInString),
  (fn_unicode_utf8_RuneCountInString, c_unicode_utf8_RuneCountInString),
  (fn_internal_bytealg_Cutover, c_internal_bytealg_Cutover),
  (fn_internal_bytealg_IndexRabinKarp_string, c_internal_bytealg_IndexRabinKarp_string),
  (fn_unicode_utf8_decodeRuneInStringSlow, c_unicode_utf8_decodeRuneInStringSlow),
  (fn_internal_bytealg_hashStr_string, c_internal_bytealg_hashStr_string)]
def prl : List (Nat × (List AV → Heap → Option (AV × Option Heap))) := [(fn_internal_bytealg_IndexByteString, pIndexByte), (fn_internal_bytealg_CountString, pCount)]
noncomputable def tb : Tab := ⟨fun n => look n fnl, fun _ => none, fun n => look n prl⟩
theorem f_l06_LinesCut : tb.prim fn_l06_LinesCut = none ∧ tb.fns fn_l06_LinesCut = some c_l06_LinesCut := ⟨rfl, rfl⟩
theorem f_l06_alive : tb.prim fn_l06_alive = none ∧ tb.fns fn_l06_alive = some c_l06_alive := ⟨rfl, rfl⟩
theorem f_r06_Parts : tb.prim fn_r06_Parts = none ∧ tb.fns fn_r06_Parts = some c_r06_Parts := ⟨rfl, rfl⟩
theorem f_lines_Cut : tb.prim fn_lines_Cut = none ∧ tb.fns fn_lines_Cut = some c_lines_Cut := ⟨rfl, rfl⟩
theorem f_r06_Same : tb.prim fn_r06_Same = none ∧ tb.fns fn_r06_Same = some c_r06_Same := ⟨rfl, rfl⟩
theorem f_lines_Parts : tb.prim fn_lines_Parts = none ∧ tb.fns fn_lines_Parts = some c_lines_Parts := ⟨rfl, rfl⟩
theorem f_lines_Split : tb.prim fn_lines_Split = none ∧ tb.fns fn_lines_Split = some c_lines_Split := ⟨rfl, rfl⟩
theorem f_lines_Loose : tb.prim fn_lines_Loose = none ∧ tb.fns fn_lines_Loose = some c_lines_Loose := ⟨rfl, rfl⟩
theorem f_strings_IndexByte : tb.prim fn_strings_IndexByte = none ∧ tb.fns fn_strings_IndexByte = some c_strings_IndexByte := ⟨rfl, rfl⟩
theorem f_strings_HasSuffix : tb.prim fn_strings_HasSuffix = none ∧ tb.fns fn_strings_HasSuffix = some c_strings_HasSuffix := ⟨rfl, rfl⟩
theorem f_strings_Split : tb.prim fn_strings_Split = none ∧ tb.fns fn_strings_Split = some c_strings_Split := ⟨rfl, rfl⟩
theorem f_strings_TrimSuffix : tb.prim fn_strings_TrimSuffix = none ∧ tb.fns fn_strings_TrimSuffix = some c_strings_TrimSuffix := ⟨rfl, rfl⟩
theorem f_internal_stringslite_IndexByte : tb.prim fn_internal_stringslite_IndexByte = none ∧ tb.fns fn_internal_stringslite_IndexByte = some c_internal_stringslite_IndexByte := ⟨rfl, rfl⟩
theorem f_internal_stringslite_HasSuffix : tb.prim fn_internal_stringslite_HasSuffix = none ∧ tb.fns fn_internal_stringslite_HasSuffix = some c_internal_stringslite_HasSuffix := ⟨rfl, rfl⟩
theorem f_strings_genSplit : tb.prim fn_strings_genSplit = none ∧ tb.fns fn_strings_genSplit = some c_strings_genSplit := ⟨rfl, rfl⟩
theorem f_internal_stringslite_TrimSuffix : tb.prim fn_internal_stringslite_TrimSuffix = none ∧ tb.fns fn_internal_stringslite_TrimSuffix = some c_internal_stringslite_TrimSuffix := ⟨rfl, rfl⟩
theorem f_strings_Index : tb.prim fn_strings_Index = none ∧ tb.fns fn_strings_Index = some c_strings_Index := ⟨rfl, rfl⟩
theorem f_strings_explode : tb.prim fn_strings_explode = none ∧ tb.fns fn_strings_explode = some c_strings_explode := ⟨rfl, rfl⟩
theorem f_strings_Count : tb.prim fn_strings_Count = none ∧ tb.fns fn_strings_Count = some c_strings_Count := ⟨rfl, rfl⟩
theorem f_internal_stringslite_Index : tb.prim fn_internal_stringslite_Index = none ∧ tb.fns fn_internal_stringslite_Index = some c_internal_stringslite_Index := ⟨rfl, rfl⟩
theorem f_unicode_utf8_DecodeRuneInString : tb.prim fn_unicode_utf8_DecodeRuneInString = none ∧ tb.fns fn_unicode_utf8_DecodeRuneInString = some c_unicode_utf8_DecodeRuneInString := ⟨rfl, rfl⟩
theorem f_unicode_utf8_RuneCountInString : tb.prim fn_unicode_utf8_RuneCountInString = none ∧ tb.fns fn_unicode_utf8_RuneCountInString = some c_unicode_utf8_RuneCountInString := ⟨rfl, rfl⟩
theorem f_internal_bytealg_Cutover : tb.prim fn_internal_bytealg_Cutover = none ∧ tb.fns fn_internal_bytealg_Cutover = some c_internal_bytealg_Cutover := ⟨rfl, rfl⟩
theorem f_internal_bytealg_IndexRabinKarp_string : tb.prim fn_internal_bytealg_IndexRabinKarp_string = none ∧ tb.fns fn_internal_bytealg_IndexRabinKarp_string = some c_internal_bytealg_IndexRabinKarp_string := ⟨rfl, rfl⟩
theorem f_unicode_utf8_decodeRuneInStringSlow : tb.prim fn_unicode_utf8_decodeRuneInStringSlow = none ∧ tb.fns fn_unicode_utf8_decodeRuneInStringSlow = some c_unicode_utf8_decodeRuneInStringSlow := ⟨rfl, rfl⟩
theorem f_internal_bytealg_hashStr_string : tb.prim fn_internal_bytealg_hashStr_string = none ∧ tb.fns fn_internal_bytealg_hashStr_string = some c_internal_bytealg_hashStr_string := ⟨rfl, rfl⟩
end Go.Proofs.YtggdinpopddhnaaDoor.Am
