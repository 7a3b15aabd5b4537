/-
  Each code is the program's. Printed by mkwalk.py.
-/
import Derived.Test.YtkmdppdlglikkaaDoorCodes
import Derived.Test.YtkmdppdlglikkaaDoorAmM
import Derived.Test.YtkmdppdlglikkaaDoorProg
import Derived.KernelRfl
set_option linter.unusedVariables false
set_option maxRecDepth 100000
namespace Go.Proofs.YtkmdppdlglikkaaDoor.Am

open Go.Proofs
theorem k_l42_InilexMany : okFn (okOp Tryd.prog) Tryd.prog c_l42_InilexMany fn_l42_InilexMany = true := by kernel_rfl
theorem k_l42_alive : okFn (okOp Tryd.prog) Tryd.prog c_l42_alive fn_l42_alive = true := by kernel_rfl
theorem k_inilex_Lex : okFn (okOp Tryd.prog) Tryd.prog c_inilex_Lex fn_inilex_Lex = true := by kernel_rfl
theorem k_lines_Loose : okFn (okOp Tryd.prog) Tryd.prog c_lines_Loose fn_lines_Loose = true := by kernel_rfl
theorem k_lines_Cut : okFn (okOp Tryd.prog) Tryd.prog c_lines_Cut fn_lines_Cut = true := by kernel_rfl
theorem k_lines_Trim : okFn (okOp Tryd.prog) Tryd.prog c_lines_Trim fn_lines_Trim = true := by kernel_rfl
theorem k_inilex_say : okFn (okOp Tryd.prog) Tryd.prog c_inilex_say fn_inilex_say = true := by kernel_rfl
theorem k_strings_Split : okFn (okOp Tryd.prog) Tryd.prog c_strings_Split fn_strings_Split = true := by kernel_rfl
theorem k_strings_TrimSuffix : okFn (okOp Tryd.prog) Tryd.prog c_strings_TrimSuffix fn_strings_TrimSuffix = true := by kernel_rfl
theorem k_strings_IndexByte : okFn (okOp Tryd.prog) Tryd.prog c_strings_IndexByte fn_strings_IndexByte = true := by kernel_rfl
theorem k_strings_Trim : okFn (okOp Tryd.prog) Tryd.prog c_strings_Trim fn_strings_Trim = true := by kernel_rfl
theorem k_strings_HasPrefix : okFn (okOp Tryd.prog) Tryd.prog c_strings_HasPrefix fn_strings_HasPrefix = true := by kernel_rfl
theorem k_inilex_section : okFn (okOp Tryd.prog) Tryd.prog c_inilex_section fn_inilex_section = true := by kernel_rfl
theorem k_inilex_pair : okFn (okOp Tryd.prog) Tryd.prog c_inilex_pair fn_inilex_pair = true := by kernel_rfl
theorem k_strings_genSplit : okFn (okOp Tryd.prog) Tryd.prog c_strings_genSplit fn_strings_genSplit = true := by kernel_rfl
theorem k_internal_stringslite_TrimSuffix : okFn (okOp Tryd.prog) Tryd.prog c_internal_stringslite_TrimSuffix fn_internal_stringslite_TrimSuffix = true := by kernel_rfl
theorem k_internal_stringslite_IndexByte : okFn (okOp Tryd.prog) Tryd.prog c_internal_stringslite_IndexByte fn_internal_stringslite_IndexByte = true := by kernel_rfl
theorem k_strings_trimLeftByte : okFn (okOp Tryd.prog) Tryd.prog c_strings_trimLeftByte fn_strings_trimLeftByte = true := by kernel_rfl
theorem k_strings_trimRightByte : okFn (okOp Tryd.prog) Tryd.prog c_strings_trimRightByte fn_strings_trimRightByte = true := by kernel_rfl
theorem k_strings_makeASCIISet : okFn (okOp Tryd.prog) Tryd.prog c_strings_makeASCIISet fn_strings_makeASCIISet = true := by kernel_rfl
theorem k_strings_trimLeftASCII : okFn (okOp Tryd.prog) Tryd.prog c_strings_trimLeftASCII fn_strings_trimLeftASCII = true := by kernel_rfl
theorem k_strings_trimRightASCII : okFn (okOp Tryd.prog) Tryd.prog c_strings_trimRightASCII fn_strings_trimRightASCII = true := by kernel_rfl
theorem k_strings_trimLeftUnicode : okFn (okOp Tryd.prog) Tryd.prog c_strings_trimLeftUnicode fn_strings_trimLeftUnicode = true := by kernel_rfl
theorem k_strings_trimRightUnicode : okFn (okOp Tryd.prog) Tryd.prog c_strings_trimRightUnicode fn_strings_trimRightUnicode = true := by kernel_rfl
theorem k_internal_stringslite_HasPrefix : okFn (okOp Tryd.prog) Tryd.prog c_internal_stringslite_HasPrefix fn_internal_stringslite_HasPrefix = true := by kernel_rfl
theorem k_strings_CutSuffix : okFn (okOp Tryd.prog) Tryd.prog c_strings_CutSuffix fn_strings_CutSuffix = true := by kernel_rfl
theorem k_strings_TrimPrefix : okFn (okOp Tryd.prog) Tryd.prog c_strings_TrimPrefix fn_strings_TrimPrefix = true := by kernel_rfl
theorem k_lines_Fold : okFn (okOp Tryd.prog) Tryd.prog c_lines_Fold fn_lines_Fold = true := by kernel_rfl
theorem k_strings_explode : okFn (okOp Tryd.prog) Tryd.prog c_strings_explode fn_strings_explode = true := by kernel_rfl
theorem k_strings_Count : okFn (okOp Tryd.prog) Tryd.prog c_strings_Count fn_strings_Count = true := by kernel_rfl
theorem k_strings_Index : okFn (okOp Tryd.prog) Tryd.prog c_strings_Index fn_strings_Index = true := by kernel_rfl
theorem k_internal_stringslite_HasSuffix : okFn (okOp Tryd.prog) Tryd.prog c_internal_stringslite_HasSuffix fn_internal_stringslite_HasSuffix = true := by kernel_rfl
theorem k_p_strings_asciiSet_contains : okFn (okOp Tryd.prog) Tryd.prog c_p_strings_asciiSet_contains fn_p_strings_asciiSet_contains = true := by kernel_rfl
theorem k_unicode_utf8_DecodeRuneInString : okFn (okOp Tryd.prog) Tryd.prog c_unicode_utf8_DecodeRuneInString fn_unicode_utf8_DecodeRuneInString = true := by kernel_rfl
theorem k_strings_ContainsRune : okFn (okOp Tryd.prog) Tryd.prog c_strings_ContainsRune fn_strings_ContainsRune = true := by kernel_rfl
theorem k_unicode_utf8_DecodeLastRuneInString : okFn (okOp Tryd.prog) Tryd.prog c_unicode_utf8_DecodeLastRuneInString fn_unicode_utf8_DecodeLastRuneInString = true := by kernel_rfl
theorem k_internal_stringslite_CutSuffix : okFn (okOp Tryd.prog) Tryd.prog c_internal_stringslite_CutSuffix fn_internal_stringslite_CutSuffix = true := by kernel_rfl
theorem k_internal_stringslite_TrimPrefix : okFn (okOp Tryd.prog) Tryd.prog c_internal_stringslite_TrimPrefix fn_internal_stringslite_TrimPrefix = true := by kernel_rfl
theorem k_unicode_utf8_RuneCountInString : okFn (okOp Tryd.prog) Tryd.prog c_unicode_utf8_RuneCountInString fn_unicode_utf8_RuneCountInString = true := by kernel_rfl
theorem k_internal_stringslite_Index : okFn (okOp Tryd.prog) Tryd.prog c_internal_stringslite_Index fn_internal_stringslite_Index = true := by kernel_rfl
theorem k_unicode_utf8_decodeRuneInStringSlow : okFn (okOp Tryd.prog) Tryd.prog c_unicode_utf8_decodeRuneInStringSlow fn_unicode_utf8_decodeRuneInStringSlow = true := by kernel_rfl
theorem k_strings_IndexRune : okFn (okOp Tryd.prog) Tryd.prog c_strings_IndexRune fn_strings_IndexRune = true := by kernel_rfl
theorem k_unicode_utf8_RuneStart : okFn (okOp Tryd.prog) Tryd.prog c_unicode_utf8_RuneStart fn_unicode_utf8_RuneStart = true := by kernel_rfl
theorem k_internal_bytealg_Cutover : okFn (okOp Tryd.prog) Tryd.prog c_internal_bytealg_Cutover fn_internal_bytealg_Cutover = true := by kernel_rfl
theorem k_internal_bytealg_IndexRabinKarp_string : okFn (okOp Tryd.prog) Tryd.prog c_internal_bytealg_IndexRabinKarp_string fn_internal_bytealg_IndexRabinKarp_string = true := by kernel_rfl
theorem k_unicode_utf8_ValidRune : okFn (okOp Tryd.prog) Tryd.prog c_unicode_utf8_ValidRune fn_unicode_utf8_ValidRune = true := by kernel_rfl
theorem k_internal_bytealg_hashStr_string : okFn (okOp Tryd.prog) Tryd.prog c_internal_bytealg_hashStr_string fn_internal_bytealg_hashStr_string = true := by kernel_rfl
theorem k_internal_bytealg_IndexByteString : ext? Tryd.prog fn_internal_bytealg_IndexByteString = some Extern.BytealgIndexByte.indexByte := by kernel_rfl
theorem k_internal_bytealg_CountString : ext? Tryd.prog fn_internal_bytealg_CountString = some Extern.BytealgCount.count := by kernel_rfl
theorem fits : Fits (okOp Tryd.prog) Tryd.prog tb := by
  refine ⟨by kernel_rfl, fun ao o h => okOp_spec ao o h, fun g p h => ?_, fun g cs h => (by cases h), fun g fn h => ?_⟩
  · have hm := look_mem h
    have all : ∀ x ∈ prl, CallsOk Tryd.prog tb fun g args h => if g = x.1 then x.2 args h else none := by
      simp only [prl, List.forall_mem_cons]
      exact ⟨prim_indexByte k_internal_bytealg_IndexByteString, prim_count k_internal_bytealg_CountString, fun x h => (by cases h)⟩
    exact all _ hm
  have hm := look_mem h
  have all : ∀ x ∈ fnl, okFn (okOp Tryd.prog) Tryd.prog x.2 x.1 = true := by
    simp only [fnl, List.forall_mem_cons]
    exact ⟨k_l42_InilexMany, k_l42_alive, k_inilex_Lex, k_lines_Loose, k_lines_Cut, k_lines_Trim, k_inilex_say, k_strings_Split, k_strings_TrimSuffix, k_strings_IndexByte, k_strings_Trim, k_strings_HasPrefix, k_inilex_section, k_inilex_pair, k_strings_genSplit, k_internal_stringslite_TrimSuffix, k_internal_stringslite_IndexByte, k_strings_trimLeftByte, k_strings_trimRightByte, k_strings_makeASCIISet, k_strings_trimLeftASCII, k_strings_trimRightASCII, k_strings_trimLeftUnicode, k_strings_trimRightUnicode, k_internal_stringslite_HasPrefix, k_strings_CutSuffix, k_strings_TrimPrefix, k_lines_Fold, k_strings_explode, k_strings_Count, k_strings_Index, k_internal_stringslite_HasSuffix, k_p_strings_asciiSet_contains, k_unicode_utf8_DecodeRuneInString, k_strings_ContainsRune, k_unicode_utf8_DecodeLastRuneInString, k_internal_stringslite_CutSuffix, k_internal_stringslite_TrimPrefix, k_unicode_utf8_RuneCountInString, k_internal_stringslite_Index, k_unicode_utf8_decodeRuneInStringSlow, k_strings_IndexRune, k_unicode_utf8_RuneStart, k_internal_bytealg_Cutover, k_internal_bytealg_IndexRabinKarp_string, k_unicode_utf8_ValidRune, k_internal_bytealg_hashStr_string, fun x h => (by cases h)⟩
  exact all _ hm
end Go.Proofs.YtkmdppdlglikkaaDoor.Am
