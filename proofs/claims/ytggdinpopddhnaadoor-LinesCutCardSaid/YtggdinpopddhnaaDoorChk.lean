/-
  Each code is the program's. Printed by mkwalk.py.
-/
import Derived.Test.YtggdinpopddhnaaDoorCodes
import Derived.Test.YtggdinpopddhnaaDoorAmM
import Derived.Test.YtggdinpopddhnaaDoorProg
import Derived.KernelRfl
set_option linter.unusedVariables false
set_option maxRecDepth 100000
namespace Go.Proofs.YtggdinpopddhnaaDoor.Am

open Go.Proofs
theorem k_l06_LinesCut : okFn (okOp Tryd.prog) Tryd.prog c_l06_LinesCut fn_l06_LinesCut = true := by kernel_rfl
theorem k_l06_alive : okFn (okOp Tryd.prog) Tryd.prog c_l06_alive fn_l06_alive = true := by kernel_rfl
theorem k_r06_Parts : okFn (okOp Tryd.prog) Tryd.prog c_r06_Parts fn_r06_Parts = true := by kernel_rfl
theorem k_lines_Cut : okFn (okOp Tryd.prog) Tryd.prog c_lines_Cut fn_lines_Cut = true := by kernel_rfl
theorem k_r06_Same : okFn (okOp Tryd.prog) Tryd.prog c_r06_Same fn_r06_Same = true := by kernel_rfl
theorem k_lines_Parts : okFn (okOp Tryd.prog) Tryd.prog c_lines_Parts fn_lines_Parts = true := by kernel_rfl
theorem k_lines_Split : okFn (okOp Tryd.prog) Tryd.prog c_lines_Split fn_lines_Split = true := by kernel_rfl
theorem k_lines_Loose : okFn (okOp Tryd.prog) Tryd.prog c_lines_Loose fn_lines_Loose = true := by kernel_rfl
theorem k_strings_IndexByte : okFn (okOp Tryd.prog) Tryd.prog c_strings_IndexByte fn_strings_IndexByte = true := by kernel_rfl
theorem k_strings_HasSuffix : okFn (okOp Tryd.prog) Tryd.prog c_strings_HasSuffix fn_strings_HasSuffix = true := by kernel_rfl
theorem k_strings_Split : okFn (okOp Tryd.prog) Tryd.prog c_strings_Split fn_strings_Split = true := by kernel_rfl
theorem k_strings_TrimSuffix : okFn (okOp Tryd.prog) Tryd.prog c_strings_TrimSuffix fn_strings_TrimSuffix = true := by kernel_rfl
theorem k_internal_stringslite_IndexByte : okFn (okOp Tryd.prog) Tryd.prog c_internal_stringslite_IndexByte fn_internal_stringslite_IndexByte = true := by kernel_rfl
theorem k_internal_stringslite_HasSuffix : okFn (okOp Tryd.prog) Tryd.prog c_internal_stringslite_HasSuffix fn_internal_stringslite_HasSuffix = true := by kernel_rfl
theorem k_strings_genSplit : okFn (okOp Tryd.prog) Tryd.prog c_strings_genSplit fn_strings_genSplit = true := by kernel_rfl
theorem k_internal_stringslite_TrimSuffix : okFn (okOp Tryd.prog) Tryd.prog c_internal_stringslite_TrimSuffix fn_internal_stringslite_TrimSuffix = true := by kernel_rfl
theorem k_strings_Index : okFn (okOp Tryd.prog) Tryd.prog c_strings_Index fn_strings_Index = true := by kernel_rfl
theorem k_strings_explode : okFn (okOp Tryd.prog) Tryd.prog c_strings_explode fn_strings_explode = true := by kernel_rfl
theorem k_strings_Count : okFn (okOp Tryd.prog) Tryd.prog c_strings_Count fn_strings_Count = true := by kernel_rfl
theorem k_internal_stringslite_Index : okFn (okOp Tryd.prog) Tryd.prog c_internal_stringslite_Index fn_internal_stringslite_Index = true := by kernel_rfl
theorem k_unicode_utf8_DecodeRuneInString : okFn (okOp Tryd.prog) Tryd.prog c_unicode_utf8_DecodeRuneInString fn_unicode_utf8_DecodeRuneInString = true := by kernel_rfl
theorem k_unicode_utf8_RuneCountInString : okFn (okOp Tryd.prog) Tryd.prog c_unicode_utf8_RuneCountInString fn_unicode_utf8_RuneCountInString = true := by kernel_rfl
theorem k_internal_bytealg_Cutover : okFn (okOp Tryd.prog) Tryd.prog c_internal_bytealg_Cutover fn_internal_bytealg_Cutover = true := by kernel_rfl
theorem k_internal_bytealg_IndexRabinKarp_string : okFn (okOp Tryd.prog) Tryd.prog c_internal_bytealg_IndexRabinKarp_string fn_internal_bytealg_IndexRabinKarp_string = true := by kernel_rfl
theorem k_unicode_utf8_decodeRuneInStringSlow : okFn (okOp Tryd.prog) Tryd.prog c_unicode_utf8_decodeRuneInStringSlow fn_unicode_utf8_decodeRuneInStringSlow = true := by kernel_rfl
theorem k_internal_bytealg_hashStr_string : okFn (okOp Tryd.prog) Tryd.prog c_internal_bytealg_hashStr_string fn_internal_bytealg_hashStr_string = true := by kernel_rfl
theorem k_internal_bytealg_IndexByteString : ext? Tryd.prog fn_internal_bytealg_IndexByteString = some Extern.BytealgIndexByte.indexByte := by kernel_rfl
theorem k_internal_bytealg_CountString : ext? Tryd.prog fn_internal_bytealg_CountString = some Extern.BytealgCount.count := by kernel_rfl
theorem fits : Fits (okOp Tryd.prog) Tryd.prog tb := by
  refine ⟨by kernel_rfl, fun ao o h => okOp_spec ao o h, fun g p h => ?_, fun g cs h => (by cases h), fun g fn h => ?_⟩
  · have hm := look_mem h
    have all : ∀ x ∈ prl, CallsOk Tryd.prog tb fun g args h => if g = x.1 then x.2 args h else none := by
      simp only [prl, List.forall_mem_cons]
      exact ⟨prim_indexByte k_internal_bytealg_IndexByteString, prim_count k_internal_bytealg_CountString, fun x h => (by cases h)⟩
    exact all _ hm
  have hm := look_mem h
  have all : ∀ x ∈ fnl, okFn (okOp Tryd.prog) Tryd.prog x.2 x.1 = true := by
    simp only [fnl, List.forall_mem_cons]
    exact ⟨k_l06_LinesCut, k_l06_alive, k_r06_Parts, k_lines_Cut, k_r06_Same, k_lines_Parts, k_lines_Split, k_lines_Loose, k_strings_IndexByte, k_strings_HasSuffix, k_strings_Split, k_strings_TrimSuffix, k_internal_stringslite_IndexByte, k_internal_stringslite_HasSuffix, k_strings_genSplit, k_internal_stringslite_TrimSuffix, k_strings_Index, k_strings_explode, k_strings_Count, k_internal_stringslite_Index, k_unicode_utf8_DecodeRuneInString, k_unicode_utf8_RuneCountInString, k_internal_bytealg_Cutover, k_internal_bytealg_IndexRabinKarp_string, k_unicode_utf8_decodeRuneInStringSlow, k_internal_bytealg_hashStr_string, fun x h => (by cases h)⟩
  exact all _ hm
end Go.Proofs.YtggdinpopddhnaaDoor.Am
