/-
  Each code is the program's. Printed by mkcodes.py.
-/
import Derived.Test.YtggdinpopddhnaaAmCodes
import Derived.Test.YtggdinpopddhnaaAmR
import Derived.Test.YtggdinpopddhnaaProg
import Derived.KernelRfl
set_option maxRecDepth 100000
namespace Go.Proofs.Ytggdinpopddhnaa.Am
open Go.Proofs

theorem k_l45_CompileOf : okFn (okOp Try.prog) Try.prog c_l45_CompileOf fn_l45_CompileOf = true := by kernel_rfl
theorem k_l45_CompileAsks : okFn (okOp Try.prog) Try.prog c_l45_CompileAsks fn_l45_CompileAsks = true := by kernel_rfl
theorem k_r34_Large : okFn (okOp Try.prog) Try.prog c_r34_Large fn_r34_Large = true := by kernel_rfl
theorem k_l45_alive : okFn (okOp Try.prog) Try.prog c_l45_alive fn_l45_alive = true := by kernel_rfl
theorem k_compile_Of : okFn (okOp Try.prog) Try.prog c_compile_Of fn_compile_Of = true := by kernel_rfl
theorem k_r43_Same : okFn (okOp Try.prog) Try.prog c_r43_Same fn_r43_Same = true := by kernel_rfl
theorem k_r45_Of : okFn (okOp Try.prog) Try.prog c_r45_Of fn_r45_Of = true := by kernel_rfl
theorem k_r34_Right : okFn (okOp Try.prog) Try.prog c_r34_Right fn_r34_Right = true := by kernel_rfl
theorem k_iniwrite_Right : okFn (okOp Try.prog) Try.prog c_iniwrite_Right fn_iniwrite_Right = true := by kernel_rfl
theorem k_r43_Large : okFn (okOp Try.prog) Try.prog c_r43_Large fn_r43_Large = true := by kernel_rfl
theorem k_compile_Request : okFn (okOp Try.prog) Try.prog c_compile_Request fn_compile_Request = true := by kernel_rfl
theorem k_r32_Same : okFn (okOp Try.prog) Try.prog c_r32_Same fn_r32_Same = true := by kernel_rfl
theorem k_r45_Request : okFn (okOp Try.prog) Try.prog c_r45_Request fn_r45_Request = true := by kernel_rfl
theorem k_r44_Right : okFn (okOp Try.prog) Try.prog c_r44_Right fn_r44_Right = true := by kernel_rfl
theorem k_change_Right : okFn (okOp Try.prog) Try.prog c_change_Right fn_change_Right = true := by kernel_rfl
theorem k_compile_each_api_Peer_api_IniPeer : okFn (okOp Try.prog) Try.prog c_compile_each_api_Peer_api_IniPeer fn_compile_each_api_Peer_api_IniPeer = true := by kernel_rfl
theorem k_compile_Of_1 : okFn (okOp Try.prog) Try.prog c_compile_Of_1 fn_compile_Of_1 = true := by kernel_rfl
theorem k_slices_Clone_api_Prefix : okFn (okOp Try.prog) Try.prog c_slices_Clone_api_Prefix fn_slices_Clone_api_Prefix = true := by kernel_rfl
theorem k_r11_Same : okFn (okOp Try.prog) Try.prog c_r11_Same fn_r11_Same = true := by kernel_rfl
theorem k_r34_from : okFn (okOp Try.prog) Try.prog c_r34_from fn_r34_from = true := by kernel_rfl
theorem k_r12_Right : okFn (okOp Try.prog) Try.prog c_r12_Right fn_r12_Right = true := by kernel_rfl
theorem k_r11_Right : okFn (okOp Try.prog) Try.prog c_r11_Right fn_r11_Right = true := by kernel_rfl
theorem k_r11_Less : okFn (okOp Try.prog) Try.prog c_r11_Less fn_r11_Less = true := by kernel_rfl
theorem k_iniwrite_short : okFn (okOp Try.prog) Try.prog c_iniwrite_short fn_iniwrite_short = true := by kernel_rfl
theorem k_slices_ContainsFunc_api_IniPeer : okFn (okOp Try.prog) Try.prog c_slices_ContainsFunc_api_IniPeer fn_slices_ContainsFunc_api_IniPeer = true := by kernel_rfl
theorem k_iniwrite_wrong : okFn (okOp Try.prog) Try.prog c_iniwrite_wrong fn_iniwrite_wrong = true := by kernel_rfl
theorem k_compile_each_api_IniPeer_api_PeerChange : okFn (okOp Try.prog) Try.prog c_compile_each_api_IniPeer_api_PeerChange fn_compile_each_api_IniPeer_api_PeerChange = true := by kernel_rfl
theorem k_compile_Request_1 : okFn (okOp Try.prog) Try.prog c_compile_Request_1 fn_compile_Request_1 = true := by kernel_rfl
theorem k_hostport_None : okFn (okOp Try.prog) Try.prog c_hostport_None fn_hostport_None = true := by kernel_rfl
theorem k_r32_SamePeer : okFn (okOp Try.prog) Try.prog c_r32_SamePeer fn_r32_SamePeer = true := by kernel_rfl
theorem k_r44_from : okFn (okOp Try.prog) Try.prog c_r44_from fn_r44_from = true := by kernel_rfl
theorem k_change_only_api_Key : okFn (okOp Try.prog) Try.prog c_change_only_api_Key fn_change_only_api_Key = true := by kernel_rfl
theorem k_change_only_int : okFn (okOp Try.prog) Try.prog c_change_only_int fn_change_only_int = true := by kernel_rfl
theorem k_change_only_uint32 : okFn (okOp Try.prog) Try.prog c_change_only_uint32 fn_change_only_uint32 = true := by kernel_rfl
theorem k_change_short : okFn (okOp Try.prog) Try.prog c_change_short fn_change_short = true := by kernel_rfl
theorem k_slices_ContainsFunc_api_PeerChange : okFn (okOp Try.prog) Try.prog c_slices_ContainsFunc_api_PeerChange fn_slices_ContainsFunc_api_PeerChange = true := by kernel_rfl
theorem k_change_Right_1 : okFn (okOp Try.prog) Try.prog c_change_Right_1 fn_change_Right_1 = true := by kernel_rfl
theorem k_change_RightPeer : okFn (okOp Try.prog) Try.prog c_change_RightPeer fn_change_RightPeer = true := by kernel_rfl
theorem k_r10_Right : okFn (okOp Try.prog) Try.prog c_r10_Right fn_r10_Right = true := by kernel_rfl
theorem k_r10_Width : okFn (okOp Try.prog) Try.prog c_r10_Width fn_r10_Width = true := by kernel_rfl
theorem k_r10_Mask : okFn (okOp Try.prog) Try.prog c_r10_Mask fn_r10_Mask = true := by kernel_rfl
theorem k_r10_Less : okFn (okOp Try.prog) Try.prog c_r10_Less fn_r10_Less = true := by kernel_rfl
theorem k_slices_IndexFunc_api_IniPeer : okFn (okOp Try.prog) Try.prog c_slices_IndexFunc_api_IniPeer fn_slices_IndexFunc_api_IniPeer = true := by kernel_rfl
theorem k_keys_Zero : okFn (okOp Try.prog) Try.prog c_keys_Zero fn_keys_Zero = true := by kernel_rfl
theorem k_hostport_Right : okFn (okOp Try.prog) Try.prog c_hostport_Right fn_hostport_Right = true := by kernel_rfl
theorem k_slices_ContainsFunc_api_Prefix : okFn (okOp Try.prog) Try.prog c_slices_ContainsFunc_api_Prefix fn_slices_ContainsFunc_api_Prefix = true := by kernel_rfl
theorem k_iniwrite_wrong_1 : okFn (okOp Try.prog) Try.prog c_iniwrite_wrong_1 fn_iniwrite_wrong_1 = true := by kernel_rfl
theorem k_cidr_Right : okFn (okOp Try.prog) Try.prog c_cidr_Right fn_cidr_Right = true := by kernel_rfl
theorem k_slices_IndexFunc_api_PeerChange : okFn (okOp Try.prog) Try.prog c_slices_IndexFunc_api_PeerChange fn_slices_IndexFunc_api_PeerChange = true := by kernel_rfl
theorem k_change_only_api_Endpoint : okFn (okOp Try.prog) Try.prog c_change_only_api_Endpoint fn_change_only_api_Endpoint = true := by kernel_rfl
theorem k_change_RightPeer_1 : okFn (okOp Try.prog) Try.prog c_change_RightPeer_1 fn_change_RightPeer_1 = true := by kernel_rfl
theorem k_r10_digit : okFn (okOp Try.prog) Try.prog c_r10_digit fn_r10_digit = true := by kernel_rfl
theorem k_addr_Right : okFn (okOp Try.prog) Try.prog c_addr_Right fn_addr_Right = true := by kernel_rfl
theorem k_slices_IndexFunc_api_Prefix : okFn (okOp Try.prog) Try.prog c_slices_IndexFunc_api_Prefix fn_slices_IndexFunc_api_Prefix = true := by kernel_rfl
theorem k_cidr_Of : okFn (okOp Try.prog) Try.prog c_cidr_Of fn_cidr_Of = true := by kernel_rfl
theorem k_addr_Four : okFn (okOp Try.prog) Try.prog c_addr_Four fn_addr_Four = true := by kernel_rfl
theorem k_addr_Width : okFn (okOp Try.prog) Try.prog c_addr_Width fn_addr_Width = true := by kernel_rfl
theorem k_addr_Mask : okFn (okOp Try.prog) Try.prog c_addr_Mask fn_addr_Mask = true := by kernel_rfl
theorem fits : Fits (okOp Try.prog) Try.prog tb := by
  refine ⟨by kernel_rfl, fun ao o h => okOp_spec ao o h, fun g p h => (by cases h), fun g cs h => (by cases h), fun g fn h => ?_⟩
  have hm := look_mem h
  have all : ∀ x ∈ fnl, okFn (okOp Try.prog) Try.prog x.2 x.1 = true := by
    simp only [fnl, List.forall_mem_cons]
    exact ⟨k_l45_CompileOf, k_l45_CompileAsks, k_r34_Large, k_l45_alive, k_compile_Of, k_r43_Same, k_r45_Of, k_r34_Right, k_iniwrite_Right, k_r43_Large, k_compile_Request, k_r32_Same, k_r45_Request, k_r44_Right, k_change_Right, k_compile_each_api_Peer_api_IniPeer, k_compile_Of_1, k_slices_Clone_api_Prefix, k_r11_Same, k_r34_from, k_r12_Right, k_r11_Right, k_r11_Less, k_iniwrite_short, k_slices_ContainsFunc_api_IniPeer, k_iniwrite_wrong, k_compile_each_api_IniPeer_api_PeerChange, k_compile_Request_1, k_hostport_None, k_r32_SamePeer, k_r44_from, k_change_only_api_Key, k_change_only_int, k_change_only_uint32, k_change_short, k_slices_ContainsFunc_api_PeerChange, k_change_Right_1, k_change_RightPeer, k_r10_Right, k_r10_Width, k_r10_Mask, k_r10_Less, k_slices_IndexFunc_api_IniPeer, k_keys_Zero, k_hostport_Right, k_slices_ContainsFunc_api_Prefix, k_iniwrite_wrong_1, k_cidr_Right, k_slices_IndexFunc_api_PeerChange, k_change_only_api_Endpoint, k_change_RightPeer_1, k_r10_digit, k_addr_Right, k_slices_IndexFunc_api_Prefix, k_cidr_Of, k_addr_Four, k_addr_Width, k_addr_Mask, fun x h => (by cases h)⟩
  exact all _ hm
end Go.Proofs.Ytggdinpopddhnaa.Am
