/-
  Each code is the program's. Printed by mkwalk.py.
-/
import Derived.Test.YtopgecohakediaaDoorCodes
import Derived.Test.YtopgecohakediaaDoorAmM
import Derived.Test.YtopgecohakediaaDoorProg
import Derived.KernelRfl
set_option linter.unusedVariables false
set_option maxRecDepth 100000
namespace Go.Proofs.YtopgecohakediaaDoor.Am

open Go.Proofs
theorem k_l44_IniwriteSame : okFn (okOp Tryd.prog) Tryd.prog c_l44_IniwriteSame fn_l44_IniwriteSame = true := by kernel_rfl
theorem k_lines_Join : okFn (okOp Tryd.prog) Tryd.prog c_lines_Join fn_lines_Join = true := by kernel_rfl
theorem k_r43_Large : okFn (okOp Tryd.prog) Tryd.prog c_r43_Large fn_r43_Large = true := by kernel_rfl
theorem k_l44_alive : okFn (okOp Tryd.prog) Tryd.prog c_l44_alive fn_l44_alive = true := by kernel_rfl
theorem k_iniwrite_Same : okFn (okOp Tryd.prog) Tryd.prog c_iniwrite_Same fn_iniwrite_Same = true := by kernel_rfl
theorem k_r43_Same : okFn (okOp Tryd.prog) Tryd.prog c_r43_Same fn_r43_Same = true := by kernel_rfl
theorem k_p_strings_Builder_WriteString : okFn (okOp Tryd.prog) Tryd.prog c_p_strings_Builder_WriteString fn_p_strings_Builder_WriteString = true := by kernel_rfl
theorem k_p_strings_Builder_String : okFn (okOp Tryd.prog) Tryd.prog c_p_strings_Builder_String fn_p_strings_Builder_String = true := by kernel_rfl
theorem k_iniwrite_Text : okFn (okOp Tryd.prog) Tryd.prog c_iniwrite_Text fn_iniwrite_Text = true := by kernel_rfl
theorem k_slices_EqualFunc_api_IniPeer_api_IniPeer : okFn (okOp Tryd.prog) Tryd.prog c_slices_EqualFunc_api_IniPeer_api_IniPeer fn_slices_EqualFunc_api_IniPeer_api_IniPeer = true := by kernel_rfl
theorem k_iniwrite_alike : okFn (okOp Tryd.prog) Tryd.prog c_iniwrite_alike fn_iniwrite_alike = true := by kernel_rfl
theorem k_r11_Same : okFn (okOp Tryd.prog) Tryd.prog c_r11_Same fn_r11_Same = true := by kernel_rfl
theorem k_p_strings_Builder_copyCheck : okFn (okOp Tryd.prog) Tryd.prog c_p_strings_Builder_copyCheck fn_p_strings_Builder_copyCheck = true := by kernel_rfl
theorem k_iniwrite_Right : okFn (okOp Tryd.prog) Tryd.prog c_iniwrite_Right fn_iniwrite_Right = true := by kernel_rfl
theorem k_iniwrite_file : okFn (okOp Tryd.prog) Tryd.prog c_iniwrite_file fn_iniwrite_file = true := by kernel_rfl
theorem k_slices_Equal_api_Prefix : okFn (okOp Tryd.prog) Tryd.prog c_slices_Equal_api_Prefix fn_slices_Equal_api_Prefix = true := by kernel_rfl
theorem k_iniwrite_short : okFn (okOp Tryd.prog) Tryd.prog c_iniwrite_short fn_iniwrite_short = true := by kernel_rfl
theorem k_slices_ContainsFunc_api_IniPeer : okFn (okOp Tryd.prog) Tryd.prog c_slices_ContainsFunc_api_IniPeer fn_slices_ContainsFunc_api_IniPeer = true := by kernel_rfl
theorem k_iniwrite_wrong : okFn (okOp Tryd.prog) Tryd.prog c_iniwrite_wrong fn_iniwrite_wrong = true := by kernel_rfl
theorem k_iniwrite_file_1 : okFn (okOp Tryd.prog) Tryd.prog c_iniwrite_file_1 fn_iniwrite_file_1 = true := by kernel_rfl
theorem k_iniwrite_file_2 : okFn (okOp Tryd.prog) Tryd.prog c_iniwrite_file_2 fn_iniwrite_file_2 = true := by kernel_rfl
theorem k_iniwrite_file_2_1 : okFn (okOp Tryd.prog) Tryd.prog c_iniwrite_file_2_1 fn_iniwrite_file_2_1 = true := by kernel_rfl
theorem k_decimal_Text : okFn (okOp Tryd.prog) Tryd.prog c_decimal_Text fn_decimal_Text = true := by kernel_rfl
theorem k_iniwrite_file_3 : okFn (okOp Tryd.prog) Tryd.prog c_iniwrite_file_3 fn_iniwrite_file_3 = true := by kernel_rfl
theorem k_iniwrite_file_3_1 : okFn (okOp Tryd.prog) Tryd.prog c_iniwrite_file_3_1 fn_iniwrite_file_3_1 = true := by kernel_rfl
theorem k_keys_Text : okFn (okOp Tryd.prog) Tryd.prog c_keys_Text fn_keys_Text = true := by kernel_rfl
theorem k_keys_Zero : okFn (okOp Tryd.prog) Tryd.prog c_keys_Zero fn_keys_Zero = true := by kernel_rfl
theorem k_hostport_None : okFn (okOp Tryd.prog) Tryd.prog c_hostport_None fn_hostport_None = true := by kernel_rfl
theorem k_iniwrite_file_4 : okFn (okOp Tryd.prog) Tryd.prog c_iniwrite_file_4 fn_iniwrite_file_4 = true := by kernel_rfl
theorem k_hostport_Text : okFn (okOp Tryd.prog) Tryd.prog c_hostport_Text fn_hostport_Text = true := by kernel_rfl
theorem k_iniwrite_file_5 : okFn (okOp Tryd.prog) Tryd.prog c_iniwrite_file_5 fn_iniwrite_file_5 = true := by kernel_rfl
theorem k_cidr_Text : okFn (okOp Tryd.prog) Tryd.prog c_cidr_Text fn_cidr_Text = true := by kernel_rfl
theorem k_slices_IndexFunc_api_IniPeer : okFn (okOp Tryd.prog) Tryd.prog c_slices_IndexFunc_api_IniPeer fn_slices_IndexFunc_api_IniPeer = true := by kernel_rfl
theorem k_hostport_Right : okFn (okOp Tryd.prog) Tryd.prog c_hostport_Right fn_hostport_Right = true := by kernel_rfl
theorem k_slices_ContainsFunc_api_Prefix : okFn (okOp Tryd.prog) Tryd.prog c_slices_ContainsFunc_api_Prefix fn_slices_ContainsFunc_api_Prefix = true := by kernel_rfl
theorem k_iniwrite_wrong_1 : okFn (okOp Tryd.prog) Tryd.prog c_iniwrite_wrong_1 fn_iniwrite_wrong_1 = true := by kernel_rfl
theorem k_cidr_Right : okFn (okOp Tryd.prog) Tryd.prog c_cidr_Right fn_cidr_Right = true := by kernel_rfl
theorem k_strconv_FormatUint : okFn (okOp Tryd.prog) Tryd.prog c_strconv_FormatUint fn_strconv_FormatUint = true := by kernel_rfl
theorem k_sixtyfour_Encode : okFn (okOp Tryd.prog) Tryd.prog c_sixtyfour_Encode fn_sixtyfour_Encode = true := by kernel_rfl
theorem k_addr_Width : okFn (okOp Tryd.prog) Tryd.prog c_addr_Width fn_addr_Width = true := by kernel_rfl
theorem k_addr_Text : okFn (okOp Tryd.prog) Tryd.prog c_addr_Text fn_addr_Text = true := by kernel_rfl
theorem k_addr_Right : okFn (okOp Tryd.prog) Tryd.prog c_addr_Right fn_addr_Right = true := by kernel_rfl
theorem k_slices_IndexFunc_api_Prefix : okFn (okOp Tryd.prog) Tryd.prog c_slices_IndexFunc_api_Prefix fn_slices_IndexFunc_api_Prefix = true := by kernel_rfl
theorem k_cidr_Of : okFn (okOp Tryd.prog) Tryd.prog c_cidr_Of fn_cidr_Of = true := by kernel_rfl
theorem k_p_strings_Builder_WriteByte : okFn (okOp Tryd.prog) Tryd.prog c_p_strings_Builder_WriteByte fn_p_strings_Builder_WriteByte = true := by kernel_rfl
theorem k_quad_Text : okFn (okOp Tryd.prog) Tryd.prog c_quad_Text fn_quad_Text = true := by kernel_rfl
theorem k_colon_Text : okFn (okOp Tryd.prog) Tryd.prog c_colon_Text fn_colon_Text = true := by kernel_rfl
theorem k_addr_Four : okFn (okOp Tryd.prog) Tryd.prog c_addr_Four fn_addr_Four = true := by kernel_rfl
theorem k_addr_Mask : okFn (okOp Tryd.prog) Tryd.prog c_addr_Mask fn_addr_Mask = true := by kernel_rfl
theorem k_colon_longest : okFn (okOp Tryd.prog) Tryd.prog c_colon_longest fn_colon_longest = true := by kernel_rfl
theorem k_colon_row : okFn (okOp Tryd.prog) Tryd.prog c_colon_row fn_colon_row = true := by kernel_rfl
theorem k_internal_abi_NoEscape : ext? Tryd.prog fn_internal_abi_NoEscape = some Extern.AbiNoEscape.same := by kernel_rfl
theorem fits : Fits (okOp Tryd.prog) Tryd.prog tb := by
  refine ⟨by kernel_rfl, fun ao o h => okOp_spec ao o h, fun g p h => ?_, fun g cs h => (by cases h), fun g fn h => ?_⟩
  · have hm := look_mem h
    have all : ∀ x ∈ prl, CallsOk Tryd.prog tb fun g args h => if g = x.1 then x.2 args h else none := by
      simp only [prl, List.forall_mem_cons]
      exact ⟨prim_same k_internal_abi_NoEscape, fun x h => (by cases h)⟩
    exact all _ hm
  have hm := look_mem h
  have all : ∀ x ∈ fnl, okFn (okOp Tryd.prog) Tryd.prog x.2 x.1 = true := by
    simp only [fnl, List.forall_mem_cons]
    exact ⟨k_l44_IniwriteSame, k_lines_Join, k_r43_Large, k_l44_alive, k_iniwrite_Same, k_r43_Same, k_p_strings_Builder_WriteString, k_p_strings_Builder_String, k_iniwrite_Text, k_slices_EqualFunc_api_IniPeer_api_IniPeer, k_iniwrite_alike, k_r11_Same, k_p_strings_Builder_copyCheck, k_iniwrite_Right, k_iniwrite_file, k_slices_Equal_api_Prefix, k_iniwrite_short, k_slices_ContainsFunc_api_IniPeer, k_iniwrite_wrong, k_iniwrite_file_1, k_iniwrite_file_2, k_iniwrite_file_2_1, k_decimal_Text, k_iniwrite_file_3, k_iniwrite_file_3_1, k_keys_Text, k_keys_Zero, k_hostport_None, k_iniwrite_file_4, k_hostport_Text, k_iniwrite_file_5, k_cidr_Text, k_slices_IndexFunc_api_IniPeer, k_hostport_Right, k_slices_ContainsFunc_api_Prefix, k_iniwrite_wrong_1, k_cidr_Right, k_strconv_FormatUint, k_sixtyfour_Encode, k_addr_Width, k_addr_Text, k_addr_Right, k_slices_IndexFunc_api_Prefix, k_cidr_Of, k_p_strings_Builder_WriteByte, k_quad_Text, k_colon_Text, k_addr_Four, k_addr_Mask, k_colon_longest, k_colon_row, fun x h => (by cases h)⟩
  exact all _ hm
end Go.Proofs.YtopgecohakediaaDoor.Am
