/-
  Each code is the program's. Printed by mkwalk.py.
-/
import Derived.Test.YtopgecohakediaaDoorCodes
import Derived.Test.YtopgecohakediaaDoorAmM
import Derived.Test.YtopgecohakediaaDoorProg
import Derived.KernelRfl
set_option linter.unusedVariables false
set_option maxRecDepth 100000
namespace Go.Proofs.YtopgecohakediaaDoor.Am

open Go.Proofs
theorem k_l06_LinesSplit : okFn (okOp Tryd.prog) Tryd.prog c_l06_LinesSplit fn_l06_LinesSplit = true := by kernel_rfl
theorem k_l06_LinesJoin : okFn (okOp Tryd.prog) Tryd.prog c_l06_LinesJoin fn_l06_LinesJoin = true := by kernel_rfl
theorem k_l36_PairlineBlocks : okFn (okOp Tryd.prog) Tryd.prog c_l36_PairlineBlocks fn_l36_PairlineBlocks = true := by kernel_rfl
theorem k_l36_PairlineReads : okFn (okOp Tryd.prog) Tryd.prog c_l36_PairlineReads fn_l36_PairlineReads = true := by kernel_rfl
theorem k_l36_PairlineMany : okFn (okOp Tryd.prog) Tryd.prog c_l36_PairlineMany fn_l36_PairlineMany = true := by kernel_rfl
theorem k_l06_alive : okFn (okOp Tryd.prog) Tryd.prog c_l06_alive fn_l06_alive = true := by kernel_rfl
theorem k_r06_Loose : okFn (okOp Tryd.prog) Tryd.prog c_r06_Loose fn_r06_Loose = true := by kernel_rfl
theorem k_lines_Split : okFn (okOp Tryd.prog) Tryd.prog c_lines_Split fn_lines_Split = true := by kernel_rfl
theorem k_r06_Same : okFn (okOp Tryd.prog) Tryd.prog c_r06_Same fn_r06_Same = true := by kernel_rfl
theorem k_lines_Loose : okFn (okOp Tryd.prog) Tryd.prog c_lines_Loose fn_lines_Loose = true := by kernel_rfl
theorem k_lines_Join : okFn (okOp Tryd.prog) Tryd.prog c_lines_Join fn_lines_Join = true := by kernel_rfl
theorem k_r06_Large : okFn (okOp Tryd.prog) Tryd.prog c_r06_Large fn_r06_Large = true := by kernel_rfl
theorem k_r06_Join : okFn (okOp Tryd.prog) Tryd.prog c_r06_Join fn_r06_Join = true := by kernel_rfl
theorem k_r06_Parts : okFn (okOp Tryd.prog) Tryd.prog c_r06_Parts fn_r06_Parts = true := by kernel_rfl
theorem k_l36_alive : okFn (okOp Tryd.prog) Tryd.prog c_l36_alive fn_l36_alive = true := by kernel_rfl
theorem k_pairline_Block : okFn (okOp Tryd.prog) Tryd.prog c_pairline_Block fn_pairline_Block = true := by kernel_rfl
theorem k_r36_Block : okFn (okOp Tryd.prog) Tryd.prog c_r36_Block fn_r36_Block = true := by kernel_rfl
theorem k_pairline_Read : okFn (okOp Tryd.prog) Tryd.prog c_pairline_Read fn_pairline_Read = true := by kernel_rfl
theorem k_l36_alike : okFn (okOp Tryd.prog) Tryd.prog c_l36_alike fn_l36_alike = true := by kernel_rfl
theorem k_r36_Read : okFn (okOp Tryd.prog) Tryd.prog c_r36_Read fn_r36_Read = true := by kernel_rfl
theorem k_lines_Parts : okFn (okOp Tryd.prog) Tryd.prog c_lines_Parts fn_lines_Parts = true := by kernel_rfl
theorem k_strings_HasSuffix : okFn (okOp Tryd.prog) Tryd.prog c_strings_HasSuffix fn_strings_HasSuffix = true := by kernel_rfl
theorem k_strings_Split : okFn (okOp Tryd.prog) Tryd.prog c_strings_Split fn_strings_Split = true := by kernel_rfl
theorem k_strings_TrimSuffix : okFn (okOp Tryd.prog) Tryd.prog c_strings_TrimSuffix fn_strings_TrimSuffix = true := by kernel_rfl
theorem k_p_strings_Builder_WriteString : okFn (okOp Tryd.prog) Tryd.prog c_p_strings_Builder_WriteString fn_p_strings_Builder_WriteString = true := by kernel_rfl
theorem k_p_strings_Builder_String : okFn (okOp Tryd.prog) Tryd.prog c_p_strings_Builder_String fn_p_strings_Builder_String = true := by kernel_rfl
theorem k_pairline_Text : okFn (okOp Tryd.prog) Tryd.prog c_pairline_Text fn_pairline_Text = true := by kernel_rfl
theorem k_r36_Text : okFn (okOp Tryd.prog) Tryd.prog c_r36_Text fn_r36_Text = true := by kernel_rfl
theorem k_slices_Index_string : okFn (okOp Tryd.prog) Tryd.prog c_slices_Index_string fn_slices_Index_string = true := by kernel_rfl
theorem k_pairline_Parse : okFn (okOp Tryd.prog) Tryd.prog c_pairline_Parse fn_pairline_Parse = true := by kernel_rfl
theorem k_r36_Parse : okFn (okOp Tryd.prog) Tryd.prog c_r36_Parse fn_r36_Parse = true := by kernel_rfl
theorem k_lines_Cut : okFn (okOp Tryd.prog) Tryd.prog c_lines_Cut fn_lines_Cut = true := by kernel_rfl
theorem k_internal_stringslite_HasSuffix : okFn (okOp Tryd.prog) Tryd.prog c_internal_stringslite_HasSuffix fn_internal_stringslite_HasSuffix = true := by kernel_rfl
theorem k_strings_genSplit : okFn (okOp Tryd.prog) Tryd.prog c_strings_genSplit fn_strings_genSplit = true := by kernel_rfl
theorem k_internal_stringslite_TrimSuffix : okFn (okOp Tryd.prog) Tryd.prog c_internal_stringslite_TrimSuffix fn_internal_stringslite_TrimSuffix = true := by kernel_rfl
theorem k_p_strings_Builder_copyCheck : okFn (okOp Tryd.prog) Tryd.prog c_p_strings_Builder_copyCheck fn_p_strings_Builder_copyCheck = true := by kernel_rfl
theorem k_strings_ContainsAny : okFn (okOp Tryd.prog) Tryd.prog c_strings_ContainsAny fn_strings_ContainsAny = true := by kernel_rfl
theorem k_strings_Contains : okFn (okOp Tryd.prog) Tryd.prog c_strings_Contains fn_strings_Contains = true := by kernel_rfl
theorem k_r36_has : okFn (okOp Tryd.prog) Tryd.prog c_r36_has fn_r36_has = true := by kernel_rfl
theorem k_strings_IndexByte : okFn (okOp Tryd.prog) Tryd.prog c_strings_IndexByte fn_strings_IndexByte = true := by kernel_rfl
theorem k_strings_explode : okFn (okOp Tryd.prog) Tryd.prog c_strings_explode fn_strings_explode = true := by kernel_rfl
theorem k_strings_Count : okFn (okOp Tryd.prog) Tryd.prog c_strings_Count fn_strings_Count = true := by kernel_rfl
theorem k_strings_Index : okFn (okOp Tryd.prog) Tryd.prog c_strings_Index fn_strings_Index = true := by kernel_rfl
theorem k_strings_IndexAny : okFn (okOp Tryd.prog) Tryd.prog c_strings_IndexAny fn_strings_IndexAny = true := by kernel_rfl
theorem k_internal_stringslite_IndexByte : okFn (okOp Tryd.prog) Tryd.prog c_internal_stringslite_IndexByte fn_internal_stringslite_IndexByte = true := by kernel_rfl
theorem k_unicode_utf8_RuneCountInString : okFn (okOp Tryd.prog) Tryd.prog c_unicode_utf8_RuneCountInString fn_unicode_utf8_RuneCountInString = true := by kernel_rfl
theorem k_unicode_utf8_DecodeRuneInString : okFn (okOp Tryd.prog) Tryd.prog c_unicode_utf8_DecodeRuneInString fn_unicode_utf8_DecodeRuneInString = true := by kernel_rfl
theorem k_internal_stringslite_Index : okFn (okOp Tryd.prog) Tryd.prog c_internal_stringslite_Index fn_internal_stringslite_Index = true := by kernel_rfl
theorem k_strings_IndexRune : okFn (okOp Tryd.prog) Tryd.prog c_strings_IndexRune fn_strings_IndexRune = true := by kernel_rfl
theorem k_strings_shouldUseASCIISet : okFn (okOp Tryd.prog) Tryd.prog c_strings_shouldUseASCIISet fn_strings_shouldUseASCIISet = true := by kernel_rfl
theorem k_strings_makeASCIISet : okFn (okOp Tryd.prog) Tryd.prog c_strings_makeASCIISet fn_strings_makeASCIISet = true := by kernel_rfl
theorem k_p_strings_asciiSet_contains : okFn (okOp Tryd.prog) Tryd.prog c_p_strings_asciiSet_contains fn_p_strings_asciiSet_contains = true := by kernel_rfl
theorem k_unicode_utf8_decodeRuneInStringSlow : okFn (okOp Tryd.prog) Tryd.prog c_unicode_utf8_decodeRuneInStringSlow fn_unicode_utf8_decodeRuneInStringSlow = true := by kernel_rfl
theorem k_internal_bytealg_Cutover : okFn (okOp Tryd.prog) Tryd.prog c_internal_bytealg_Cutover fn_internal_bytealg_Cutover = true := by kernel_rfl
theorem k_internal_bytealg_IndexRabinKarp_string : okFn (okOp Tryd.prog) Tryd.prog c_internal_bytealg_IndexRabinKarp_string fn_internal_bytealg_IndexRabinKarp_string = true := by kernel_rfl
theorem k_unicode_utf8_ValidRune : okFn (okOp Tryd.prog) Tryd.prog c_unicode_utf8_ValidRune fn_unicode_utf8_ValidRune = true := by kernel_rfl
theorem k_internal_bytealg_hashStr_string : okFn (okOp Tryd.prog) Tryd.prog c_internal_bytealg_hashStr_string fn_internal_bytealg_hashStr_string = true := by kernel_rfl
theorem k_internal_bytealg_IndexByteString : ext? Tryd.prog fn_internal_bytealg_IndexByteString = some Extern.BytealgIndexByte.indexByte := by kernel_rfl
theorem k_internal_bytealg_CountString : ext? Tryd.prog fn_internal_bytealg_CountString = some Extern.BytealgCount.count := by kernel_rfl
theorem k_internal_abi_NoEscape : ext? Tryd.prog fn_internal_abi_NoEscape = some Extern.AbiNoEscape.same := by kernel_rfl
theorem fits : Fits (okOp Tryd.prog) Tryd.prog tb := by
  refine ⟨by kernel_rfl, fun ao o h => okOp_spec ao o h, fun g p h => ?_, fun g cs h => (by cases h), fun g fn h => ?_⟩
  · have hm := look_mem h
    have all : ∀ x ∈ prl, CallsOk Tryd.prog tb fun g args h => if g = x.1 then x.2 args h else none := by
      simp only [prl, List.forall_mem_cons]
      exact ⟨prim_indexByte k_internal_bytealg_IndexByteString, prim_count k_internal_bytealg_CountString, prim_same k_internal_abi_NoEscape, fun x h => (by cases h)⟩
    exact all _ hm
  have hm := look_mem h
  have all : ∀ x ∈ fnl, okFn (okOp Tryd.prog) Tryd.prog x.2 x.1 = true := by
    simp only [fnl, List.forall_mem_cons]
    exact ⟨k_l06_LinesSplit, k_l06_LinesJoin, k_l36_PairlineBlocks, k_l36_PairlineReads, k_l36_PairlineMany, k_l06_alive, k_r06_Loose, k_lines_Split, k_r06_Same, k_lines_Loose, k_lines_Join, k_r06_Large, k_r06_Join, k_r06_Parts, k_l36_alive, k_pairline_Block, k_r36_Block, k_pairline_Read, k_l36_alike, k_r36_Read, k_lines_Parts, k_strings_HasSuffix, k_strings_Split, k_strings_TrimSuffix, k_p_strings_Builder_WriteString, k_p_strings_Builder_String, k_pairline_Text, k_r36_Text, k_slices_Index_string, k_pairline_Parse, k_r36_Parse, k_lines_Cut, k_internal_stringslite_HasSuffix, k_strings_genSplit, k_internal_stringslite_TrimSuffix, k_p_strings_Builder_copyCheck, k_strings_ContainsAny, k_strings_Contains, k_r36_has, k_strings_IndexByte, k_strings_explode, k_strings_Count, k_strings_Index, k_strings_IndexAny, k_internal_stringslite_IndexByte, k_unicode_utf8_RuneCountInString, k_unicode_utf8_DecodeRuneInString, k_internal_stringslite_Index, k_strings_IndexRune, k_strings_shouldUseASCIISet, k_strings_makeASCIISet, k_p_strings_asciiSet_contains, k_unicode_utf8_decodeRuneInStringSlow, k_internal_bytealg_Cutover, k_internal_bytealg_IndexRabinKarp_string, k_unicode_utf8_ValidRune, k_internal_bytealg_hashStr_string, fun x h => (by cases h)⟩
  exact all _ hm
end Go.Proofs.YtopgecohakediaaDoor.Am
