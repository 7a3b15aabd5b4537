/-
  Each code is the program's. Printed by mkwalk.py.
-/
import Derived.Test.YtobejhpigbllpaaGreatDoorCodes
import Derived.Test.YtobejhpigbllpaaGreatDoorAmM
import Derived.Test.YtobejhpigbllpaaGreatDoorProg
import Derived.KernelRfl
set_option linter.unusedVariables false
set_option maxRecDepth 100000
namespace Go.Proofs.YtobejhpigbllpaaGreatDoor.Am

open Go.Proofs
theorem k_l39_GetresRefuses : okFn (okOp Tryz.prog) Tryz.prog c_l39_GetresRefuses fn_l39_GetresRefuses = true := by kernel_rfl
theorem k_r06_Loose : okFn (okOp Tryz.prog) Tryz.prog c_r06_Loose fn_r06_Loose = true := by kernel_rfl
theorem k_l39_alive : okFn (okOp Tryz.prog) Tryz.prog c_l39_alive fn_l39_alive = true := by kernel_rfl
theorem k_getres_Text : okFn (okOp Tryz.prog) Tryz.prog c_getres_Text fn_getres_Text = true := by kernel_rfl
theorem k_getres_Refusal : okFn (okOp Tryz.prog) Tryz.prog c_getres_Refusal fn_getres_Refusal = true := by kernel_rfl
theorem k_r39_Refusal : okFn (okOp Tryz.prog) Tryz.prog c_r39_Refusal fn_r39_Refusal = true := by kernel_rfl
theorem k_r03_Text : okFn (okOp Tryz.prog) Tryz.prog c_r03_Text fn_r03_Text = true := by kernel_rfl
theorem k_r06_Parts : okFn (okOp Tryz.prog) Tryz.prog c_r06_Parts fn_r06_Parts = true := by kernel_rfl
theorem k_lines_Join : okFn (okOp Tryz.prog) Tryz.prog c_lines_Join fn_lines_Join = true := by kernel_rfl
theorem k_view_Right : okFn (okOp Tryz.prog) Tryz.prog c_view_Right fn_view_Right = true := by kernel_rfl
theorem k_getres_peer : okFn (okOp Tryz.prog) Tryz.prog c_getres_peer fn_getres_peer = true := by kernel_rfl
theorem k_pairline_Block : okFn (okOp Tryz.prog) Tryz.prog c_pairline_Block fn_pairline_Block = true := by kernel_rfl
theorem k_getres_pairs : okFn (okOp Tryz.prog) Tryz.prog c_getres_pairs fn_getres_pairs = true := by kernel_rfl
theorem k_p_strings_Builder_WriteString : okFn (okOp Tryz.prog) Tryz.prog c_p_strings_Builder_WriteString fn_p_strings_Builder_WriteString = true := by kernel_rfl
theorem k_p_strings_Builder_String : okFn (okOp Tryz.prog) Tryz.prog c_p_strings_Builder_String fn_p_strings_Builder_String = true := by kernel_rfl
theorem k_view_short : okFn (okOp Tryz.prog) Tryz.prog c_view_short fn_view_short = true := by kernel_rfl
theorem k_view_rising : okFn (okOp Tryz.prog) Tryz.prog c_view_rising fn_view_rising = true := by kernel_rfl
theorem k_hostport_None : okFn (okOp Tryz.prog) Tryz.prog c_hostport_None fn_hostport_None = true := by kernel_rfl
theorem k_hostport_Right : okFn (okOp Tryz.prog) Tryz.prog c_hostport_Right fn_hostport_Right = true := by kernel_rfl
theorem k_pairline_Text : okFn (okOp Tryz.prog) Tryz.prog c_pairline_Text fn_pairline_Text = true := by kernel_rfl
theorem k_field_Pair : okFn (okOp Tryz.prog) Tryz.prog c_field_Pair fn_field_Pair = true := by kernel_rfl
theorem k_hexes_Encode : okFn (okOp Tryz.prog) Tryz.prog c_hexes_Encode fn_hexes_Encode = true := by kernel_rfl
theorem k_keys_Hex : okFn (okOp Tryz.prog) Tryz.prog c_keys_Hex fn_keys_Hex = true := by kernel_rfl
theorem k_decimal_Text : okFn (okOp Tryz.prog) Tryz.prog c_decimal_Text fn_decimal_Text = true := by kernel_rfl
theorem k_p_strings_Builder_copyCheck : okFn (okOp Tryz.prog) Tryz.prog c_p_strings_Builder_copyCheck fn_p_strings_Builder_copyCheck = true := by kernel_rfl
theorem k_strings_IndexByte : okFn (okOp Tryz.prog) Tryz.prog c_strings_IndexByte fn_strings_IndexByte = true := by kernel_rfl
theorem k_cidr_Right : okFn (okOp Tryz.prog) Tryz.prog c_cidr_Right fn_cidr_Right = true := by kernel_rfl
theorem k_cidr_Less : okFn (okOp Tryz.prog) Tryz.prog c_cidr_Less fn_cidr_Less = true := by kernel_rfl
theorem k_addr_Right : okFn (okOp Tryz.prog) Tryz.prog c_addr_Right fn_addr_Right = true := by kernel_rfl
theorem k_strings_ContainsAny : okFn (okOp Tryz.prog) Tryz.prog c_strings_ContainsAny fn_strings_ContainsAny = true := by kernel_rfl
theorem k_strings_Contains : okFn (okOp Tryz.prog) Tryz.prog c_strings_Contains fn_strings_Contains = true := by kernel_rfl
theorem k_field_Right : okFn (okOp Tryz.prog) Tryz.prog c_field_Right fn_field_Right = true := by kernel_rfl
theorem k_field_shapeOf : okFn (okOp Tryz.prog) Tryz.prog c_field_shapeOf fn_field_shapeOf = true := by kernel_rfl
theorem k_field_Name : okFn (okOp Tryz.prog) Tryz.prog c_field_Name fn_field_Name = true := by kernel_rfl
theorem k_p_strings_Builder_WriteByte : okFn (okOp Tryz.prog) Tryz.prog c_p_strings_Builder_WriteByte fn_p_strings_Builder_WriteByte = true := by kernel_rfl
theorem k_addr_Width : okFn (okOp Tryz.prog) Tryz.prog c_addr_Width fn_addr_Width = true := by kernel_rfl
theorem k_strconv_FormatUint : okFn (okOp Tryz.prog) Tryz.prog c_strconv_FormatUint fn_strconv_FormatUint = true := by kernel_rfl
theorem k_internal_stringslite_IndexByte : okFn (okOp Tryz.prog) Tryz.prog c_internal_stringslite_IndexByte fn_internal_stringslite_IndexByte = true := by kernel_rfl
theorem k_cidr_Of : okFn (okOp Tryz.prog) Tryz.prog c_cidr_Of fn_cidr_Of = true := by kernel_rfl
theorem k_addr_Less : okFn (okOp Tryz.prog) Tryz.prog c_addr_Less fn_addr_Less = true := by kernel_rfl
theorem k_addr_Four : okFn (okOp Tryz.prog) Tryz.prog c_addr_Four fn_addr_Four = true := by kernel_rfl
theorem k_strings_IndexAny : okFn (okOp Tryz.prog) Tryz.prog c_strings_IndexAny fn_strings_IndexAny = true := by kernel_rfl
theorem k_strings_Index : okFn (okOp Tryz.prog) Tryz.prog c_strings_Index fn_strings_Index = true := by kernel_rfl
theorem k_field_keyed : okFn (okOp Tryz.prog) Tryz.prog c_field_keyed fn_field_keyed = true := by kernel_rfl
theorem k_field_ended : okFn (okOp Tryz.prog) Tryz.prog c_field_ended fn_field_ended = true := by kernel_rfl
theorem k_field_allowed : okFn (okOp Tryz.prog) Tryz.prog c_field_allowed fn_field_allowed = true := by kernel_rfl
theorem k_field_counted : okFn (okOp Tryz.prog) Tryz.prog c_field_counted fn_field_counted = true := by kernel_rfl
theorem k_field_said : okFn (okOp Tryz.prog) Tryz.prog c_field_said fn_field_said = true := by kernel_rfl
theorem k_internal_strconv_FormatUint : okFn (okOp Tryz.prog) Tryz.prog c_internal_strconv_FormatUint fn_internal_strconv_FormatUint = true := by kernel_rfl
theorem k_addr_Mask : okFn (okOp Tryz.prog) Tryz.prog c_addr_Mask fn_addr_Mask = true := by kernel_rfl
theorem k_bytes_Compare : okFn (okOp Tryz.prog) Tryz.prog c_bytes_Compare fn_bytes_Compare = true := by kernel_rfl
theorem k_strings_IndexRune : okFn (okOp Tryz.prog) Tryz.prog c_strings_IndexRune fn_strings_IndexRune = true := by kernel_rfl
theorem k_strings_shouldUseASCIISet : okFn (okOp Tryz.prog) Tryz.prog c_strings_shouldUseASCIISet fn_strings_shouldUseASCIISet = true := by kernel_rfl
theorem k_strings_makeASCIISet : okFn (okOp Tryz.prog) Tryz.prog c_strings_makeASCIISet fn_strings_makeASCIISet = true := by kernel_rfl
theorem k_p_strings_asciiSet_contains : okFn (okOp Tryz.prog) Tryz.prog c_p_strings_asciiSet_contains fn_p_strings_asciiSet_contains = true := by kernel_rfl
theorem k_internal_stringslite_Index : okFn (okOp Tryz.prog) Tryz.prog c_internal_stringslite_Index fn_internal_stringslite_Index = true := by kernel_rfl
theorem k_field_keyed_2 : okFn (okOp Tryz.prog) Tryz.prog c_field_keyed_2 fn_field_keyed_2 = true := by kernel_rfl
theorem k_field_keyed_3 : okFn (okOp Tryz.prog) Tryz.prog c_field_keyed_3 fn_field_keyed_3 = true := by kernel_rfl
theorem k_field_ended_3 : okFn (okOp Tryz.prog) Tryz.prog c_field_ended_3 fn_field_ended_3 = true := by kernel_rfl
theorem k_field_allowed_3 : okFn (okOp Tryz.prog) Tryz.prog c_field_allowed_3 fn_field_allowed_3 = true := by kernel_rfl
theorem k_field_counted_2 : okFn (okOp Tryz.prog) Tryz.prog c_field_counted_2 fn_field_counted_2 = true := by kernel_rfl
theorem k_field_counted_3 : okFn (okOp Tryz.prog) Tryz.prog c_field_counted_3 fn_field_counted_3 = true := by kernel_rfl
theorem k_field_said_2 : okFn (okOp Tryz.prog) Tryz.prog c_field_said_2 fn_field_said_2 = true := by kernel_rfl
theorem k_field_said_3 : okFn (okOp Tryz.prog) Tryz.prog c_field_said_3 fn_field_said_3 = true := by kernel_rfl
theorem k_internal_strconv_small : okFn (okOp Tryz.prog) Tryz.prog c_internal_strconv_small fn_internal_strconv_small = true := by kernel_rfl
theorem k_internal_strconv_numDigits : okFn (okOp Tryz.prog) Tryz.prog c_internal_strconv_numDigits fn_internal_strconv_numDigits = true := by kernel_rfl
theorem k_unicode_utf8_ValidRune : okFn (okOp Tryz.prog) Tryz.prog c_unicode_utf8_ValidRune fn_unicode_utf8_ValidRune = true := by kernel_rfl
theorem k_internal_bytealg_Cutover : okFn (okOp Tryz.prog) Tryz.prog c_internal_bytealg_Cutover fn_internal_bytealg_Cutover = true := by kernel_rfl
theorem k_internal_strconv_log10Pow2 : okFn (okOp Tryz.prog) Tryz.prog c_internal_strconv_log10Pow2 fn_internal_strconv_log10Pow2 = true := by kernel_rfl
theorem k_math_bits_Len64 : okFn (okOp Tryz.prog) Tryz.prog c_math_bits_Len64 fn_math_bits_Len64 = true := by kernel_rfl
theorem k_internal_strconv_bool2_int : okFn (okOp Tryz.prog) Tryz.prog c_internal_strconv_bool2_int fn_internal_strconv_bool2_int = true := by kernel_rfl
theorem k_internal_bytealg_IndexByteString : ext? Tryz.prog fn_internal_bytealg_IndexByteString = some Extern.BytealgIndexByte.indexByte := by kernel_rfl
theorem k_internal_abi_NoEscape : ext? Tryz.prog fn_internal_abi_NoEscape = some Extern.AbiNoEscape.same := by kernel_rfl
theorem fits : Fits (okOp Tryz.prog) Tryz.prog tb := by
  refine ⟨by kernel_rfl, fun ao o h => okOp_spec ao o h, fun g p h => ?_, fun g cs h => (by
    have hm := look_mem h
    have all : ∀ x ∈ gll, mentL x.2 = 0 := by
      simp only [gll, List.forall_mem_cons]
      exact ⟨gm_0, gm_2, fun x h => (by cases h)⟩
    exact all _ hm), fun g fn h => ?_⟩
  · have hm := look_mem h
    have all : ∀ x ∈ prl, CallsOk Tryz.prog tb fun g args h => if g = x.1 then x.2 args h else none := by
      simp only [prl, List.forall_mem_cons]
      exact ⟨prim_indexByte k_internal_bytealg_IndexByteString, prim_same k_internal_abi_NoEscape, fun x h => (by cases h)⟩
    exact all _ hm
  have hm := look_mem h
  have all : ∀ x ∈ fnl, okFn (okOp Tryz.prog) Tryz.prog x.2 x.1 = true := by
    simp only [fnl, List.forall_mem_cons]
    exact ⟨k_l39_GetresRefuses, k_r06_Loose, k_l39_alive, k_getres_Text, k_getres_Refusal, k_r39_Refusal, k_r03_Text, k_r06_Parts, k_lines_Join, k_view_Right, k_getres_peer, k_pairline_Block, k_getres_pairs, k_p_strings_Builder_WriteString, k_p_strings_Builder_String, k_view_short, k_view_rising, k_hostport_None, k_hostport_Right, k_pairline_Text, k_field_Pair, k_hexes_Encode, k_keys_Hex, k_decimal_Text, k_p_strings_Builder_copyCheck, k_strings_IndexByte, k_cidr_Right, k_cidr_Less, k_addr_Right, k_strings_ContainsAny, k_strings_Contains, k_field_Right, k_field_shapeOf, k_field_Name, k_p_strings_Builder_WriteByte, k_addr_Width, k_strconv_FormatUint, k_internal_stringslite_IndexByte, k_cidr_Of, k_addr_Less, k_addr_Four, k_strings_IndexAny, k_strings_Index, k_field_keyed, k_field_ended, k_field_allowed, k_field_counted, k_field_said, k_internal_strconv_FormatUint, k_addr_Mask, k_bytes_Compare, k_strings_IndexRune, k_strings_shouldUseASCIISet, k_strings_makeASCIISet, k_p_strings_asciiSet_contains, k_internal_stringslite_Index, k_field_keyed_2, k_field_keyed_3, k_field_ended_3, k_field_allowed_3, k_field_counted_2, k_field_counted_3, k_field_said_2, k_field_said_3, k_internal_strconv_small, k_internal_strconv_numDigits, k_unicode_utf8_ValidRune, k_internal_bytealg_Cutover, k_internal_strconv_log10Pow2, k_math_bits_Len64, k_internal_strconv_bool2_int, fun x h => (by cases h)⟩
  exact all _ hm
end Go.Proofs.YtobejhpigbllpaaGreatDoor.Am
