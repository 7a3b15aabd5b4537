/-
  What functions compute, and that they do. Printed by mkwalk.py.
-/
import Derived.Test.YtopgecohakediaaDoorCodes
set_option linter.unusedVariables false
set_option maxRecDepth 100000
namespace Go.Proofs.YtopgecohakediaaDoor.Am

noncomputable def r43_Large (a0 : S_api_Ini) : Option Bool :=
 if (decide (80 < (a0.Peers.l.length : Int))) = true then
 some true
 else
 (iter (fun (s4 : Int) =>
 if (decide (s4 < (a0.Peers.l.length : Int))) = true then
 (idx a0.Peers.l s4).bind fun x10 =>
 if (decide (80 < (x10.Allowed.l.length : Int))) = true then
 (some true).map fun r => .inr (.inr r)
 else
 some (.inl (IntKind.i64.wrap (s4 + 1)))
 else
 some (.inr (.inl ()))) 0).bind (Sum.elim (fun (p5 : Unit) =>
 some false) some)
noncomputable def sim_r43_Large (a : Res [T_api_Ini]) : Sim tb ⟨argsT [T_api_Ini] 0 a, []⟩ c_r43_Large.body [] (QRes [T.b] c_r43_Large.res) :=
 Sim.seqI <| Sim.opM (M_box (t := T_api_Ini) 1 rfl rfl (o_t rfl)) fun _ =>
 Sim.op1 (h_mv o_b) <|
 Sim.doneS <| Sim.seqI <| Sim.seqI <| Sim.op1 (h_faC (o_t rfl)) <|
 Sim.opn (h_ldC (t := T_api_Ini) (u := (T.sl T_api_IniPeer)) (o_t rfl) rfl rfl F_api_Ini_Peers rfl rfl) fun x1 =>
 Sim.op (h_len (o_t rfl)) fun x2 =>
 Sim.op (h_cmp (I := (IT.int .i64)) rfl (o_t rfl) o_i) fun x3 =>
 Sim.doneS <| Sim.cond (o_t rfl) (
 Sim.seqI <| Sim.op1 (h_mv o_b) <|
 Sim.doneS <| Sim.ret (.one (res_t rfl))) (
 Sim.skip <| Sim.doneS <| Sim.seqI <| Sim.seqI <| Sim.op1 (h_mv o_i) <|
 Sim.doneS <| Sim.blkI <| Sim.loop (id := 0) (σ := Int) (τ := Unit) (fun s4 => ⟨[(1, .cp 1 0), (3, .val (T.int .i64) s4)], [(1, .cells [(35, .val T_api_Ini a)])]⟩) (fun p5 => ⟨[], []⟩) 0 ⟨⟨⟨rfl, trivial⟩, ⟨⟨rfl, trivial⟩, trivial⟩⟩, ⟨⟨rfl, ⟨trivial, trivial⟩⟩, trivial⟩⟩ (fun _ => rfl) (fun s4 =>
 Sim.seqI <| Sim.seqI <| Sim.op1 (h_mv (o_t rfl)) <|
 Sim.op1 (h_faC (o_t rfl)) <|
 Sim.opn (h_ldC (t := T_api_Ini) (u := (T.sl T_api_IniPeer)) (o_t rfl) rfl rfl F_api_Ini_Peers rfl rfl) fun x6 =>
 Sim.op (h_len (o_t rfl)) fun x7 =>
 Sim.op (h_cmp (I := (IT.int .i64)) rfl (o_t rfl) (o_t rfl)) fun x8 =>
 Sim.doneS <| Sim.cond (o_t rfl) (
 Sim.skip <| Sim.doneS <| Sim.seqI <| Sim.blkI <| Sim.seqI <| Sim.op1 (h_faC (o_t rfl)) <|
 Sim.opn (h_ldC (t := T_api_Ini) (u := (T.sl T_api_IniPeer)) (o_t rfl) rfl rfl F_api_Ini_Peers rfl rfl) fun x9 =>
 Sim.op1 (h_mv (o_t rfl)) <|
 Sim.op (h_ias rfl (o_t rfl) (o_t rfl)) fun x10 =>
 Sim.opr (h_fa F_api_IniPeer_Allowed (o_t rfl)) fun x11 =>
 Sim.opn (h_ld rfl rfl (o_t rfl)) fun x12 =>
 Sim.op (h_len (o_t rfl)) fun x13 =>
 Sim.op (h_cmp (I := (IT.int .i64)) rfl (o_t rfl) o_i) fun x14 =>
 Sim.doneS <| Sim.cond (o_t rfl) (
 Sim.seqI <| Sim.op1 (h_mv o_b) <|
 Sim.doneS <| Sim.outRet <| Sim.ret (.one (res_t rfl))) (
 Sim.skip <| Sim.doneB <| Sim.doneS <| Sim.op1 (h_mv (o_t rfl)) <|
 Sim.op (h_add (I := (IT.int .i64)) (o_t rfl) o_i) fun x15 =>
 Sim.op1 (h_mv (o_t rfl)) <|
 Sim.next x15 ⟨⟨⟨rfl, trivial⟩, ⟨⟨rfl, trivial⟩, trivial⟩⟩, ⟨⟨rfl, ⟨trivial, trivial⟩⟩, trivial⟩⟩)) (
 Sim.exitS <| Sim.out () ⟨trivial, trivial⟩)) (fun p5 =>
 Sim.exitB <| Sim.doneS <| Sim.seqI <| Sim.op1 (h_mv o_b) <|
 Sim.doneS <| Sim.ret (.one (res_t rfl))))
theorem sp_r43_Large : Spec tb fn_r43_Large [T_api_Ini] [T.b] (fun a => r43_Large a) :=
  Spec.of f_r43_Large rfl rfl rfl sim_r43_Large

noncomputable def iniwrite_short (a0 : Int) : Option Bool :=
 (andO (decide (0 ≤ a0)) (some (decide (a0 ≤ 65535)))).bind fun x3 =>
 some x3
noncomputable def sim_iniwrite_short (a : Res [(T.int .i64)]) : Sim tb ⟨argsT [(T.int .i64)] 0 a, []⟩ c_iniwrite_short.body [] (QRes [T.b] c_iniwrite_short.res) :=
 Sim.seqI <| Sim.op1 (h_mv o_b) <|
 Sim.doneS <| Sim.seqI <| Sim.op1 (h_mv (o_t rfl)) <|
 Sim.op (h_cmp (I := (IT.int .i64)) rfl (o_t rfl) o_i) fun x1 =>
 Sim.op1 (h_mv (o_t rfl)) <|
 Sim.and 2 rfl rfl rfl (Grp.op1 (h_mv (o_t rfl)) <|
 Grp.op (h_cmp (I := (IT.int .i64)) rfl (o_t rfl) o_i) fun x2 =>
 Grp.nil (o_t rfl)) fun x3 =>
 Sim.op1 (h_mv (o_t rfl)) <|
 Sim.doneS <| Sim.ret (.one (res_t rfl))
theorem sp_iniwrite_short : Spec tb fn_iniwrite_short [(T.int .i64)] [T.b] (fun a => iniwrite_short a) :=
  Spec.of f_iniwrite_short rfl rfl rfl sim_iniwrite_short

noncomputable def keys_Zero (a0 : (Ar UInt8 32)) : Option Bool :=
 let x2 := (⟨[0, 0, 0, 0, 0, 0, 0, 0, 0, 0, 0, 0, 0, 0, 0, 0, 0, 0, 0, 0, 0, 0, 0, 0, 0, 0, 0, 0, 0, 0, 0, 0], rfl⟩ : (Ar UInt8 32))
 some (cmpB (CmpC.arr 32 CmpC.u8) a0 x2)
noncomputable def sim_keys_Zero (a : Res [(T.arr 32 T.u8)]) : Sim tb ⟨argsT [(T.arr 32 T.u8)] 0 a, []⟩ c_keys_Zero.body [] (QRes [T.b] c_keys_Zero.res) :=
 Sim.seqI <| Sim.opM (M_box (t := (T.arr 32 T.u8)) 1 rfl rfl (o_t rfl)) fun _ =>
 Sim.op1 (h_mv o_b) <|
 Sim.doneS <| Sim.seqI <| Sim.opn (h_ldC (t := (T.arr 32 T.u8)) (u := (T.arr 32 T.u8)) (o_t rfl) rfl rfl (Fld.id _) rfl rfl) fun x1 =>
 Sim.opn (h_bldA (t := T.u8) (⟨[0, 0, 0, 0, 0, 0, 0, 0, 0, 0, 0, 0, 0, 0, 0, 0, 0, 0, 0, 0, 0, 0, 0, 0, 0, 0, 0, 0, 0, 0, 0, 0], rfl⟩ : (Ar UInt8 32)) rfl (.nil _)) fun x2 =>
 Sim.op (h_eq (CmpC.arr 32 CmpC.u8) rfl rfl (o_t rfl) (o_t rfl)) fun x3 =>
 Sim.op1 (h_mv (o_t rfl)) <|
 Sim.doneS <| Sim.ret (.one (res_t rfl))
theorem sp_keys_Zero : Spec tb fn_keys_Zero [(T.arr 32 T.u8)] [T.b] (fun a => keys_Zero a) :=
  Spec.of f_keys_Zero rfl rfl rfl sim_keys_Zero

noncomputable def hostport_None (a0 : S_api_Endpoint) : Option Bool :=
 let x3 := (cmpB C_api_Endpoint a0 (⟨T_api_Addr.z, 0⟩ : S_api_Endpoint))
 some x3
noncomputable def sim_hostport_None (a : Res [T_api_Endpoint]) : Sim tb ⟨argsT [T_api_Endpoint] 0 a, []⟩ c_hostport_None.body [] (QRes [T.b] c_hostport_None.res) :=
 Sim.seqI <| Sim.opM (M_box (t := T_api_Endpoint) 1 rfl rfl (o_t rfl)) fun _ =>
 Sim.op1 (h_mv o_b) <|
 Sim.doneS <| Sim.seqI <| Sim.opn (h_ldC (t := T_api_Endpoint) (u := T_api_Endpoint) (o_t rfl) rfl rfl (Fld.id _) rfl rfl) fun x1 =>
 Sim.op (h_bld rfl rfl (.nil _)) fun x2 =>
 Sim.op (h_eq C_api_Endpoint rfl rfl (o_t rfl) (o_t rfl)) fun x3 =>
 Sim.op1 (h_mv (o_t rfl)) <|
 Sim.doneS <| Sim.ret (.one (res_t rfl))
theorem sp_hostport_None : Spec tb fn_hostport_None [T_api_Endpoint] [T.b] (fun a => hostport_None a) :=
  Spec.of f_hostport_None rfl rfl rfl sim_hostport_None

noncomputable def addr_Four (a0 : (Ar UInt8 4)) : Option S_api_Addr :=
 (frzO a0.l 0 4 4).bind fun x5 =>
 (cpyA ((⟨4, (T.arr 16 T.u8).z⟩ : S_api_Addr).B) 0 16 x5.l).bind fun x6 =>
 let x7 := ({ (⟨4, (T.arr 16 T.u8).z⟩ : S_api_Addr) with B := x6 })
 some x7
noncomputable def sim_addr_Four (a : Res [(T.arr 4 T.u8)]) : Sim tb ⟨argsT [(T.arr 4 T.u8)] 0 a, []⟩ c_addr_Four.body [] (QRes [T_api_Addr] c_addr_Four.res) :=
 Sim.seqI <| Sim.opM (M_box (t := (T.arr 4 T.u8)) 1 rfl rfl (o_t rfl)) fun _ =>
 Sim.opM (M_alloc (t := T_api_Addr) 2 rfl rfl) fun x1 =>
 Sim.doneS <| Sim.seqI <| Sim.op (h_bld rfl rfl (.cons F_api_Addr_V rfl o_i <| .nil _)) fun x2 =>
 Sim.opM (M_alloc (t := T_api_Addr) 3 rfl rfl) fun x3 =>
 Sim.opM (M_stC (o_t rfl) (o_t rfl) rfl rfl (Fld.id _) rfl) fun x4 =>
 Sim.doneS <| Sim.seqI <| Sim.regd 1 <| SimD.op1 rfl (h_faC (o_t rfl)) <|
 SimD.op1 rfl (h_slaL (k := 0) (m := 16) rfl rfl (o_t rfl) .none .none rfl rfl rfl) <|
 SimD.op1 rfl (h_slaL (k := 0) (m := 4) rfl rfl (o_t rfl) .none .none rfl rfl rfl) <|
 SimD.frzSl (o := 0) (k := 0) (m := 4) (t := (T.arr 4 T.u8)) (u := T.u8) 7 (Fld.id _) rfl rfl rfl rfl fun x5 =>
 SimD.opM rfl (fun _ => .nil) (M_cpyD (t := T.u8) (s := T_api_Addr) (o := 1) (k := 0) F_api_Addr_B rfl (o_t rfl) (n_sl (o_t rfl)) rfl rfl) fun x6 =>
 SimD.done <| Sim.doneS <| Sim.seqI <| Sim.opn (h_ldC (t := T_api_Addr) (u := T_api_Addr) (o_t rfl) rfl rfl (Fld.id _) rfl rfl) fun x7 =>
 Sim.opM (M_stC (o_t rfl) (o_t rfl) rfl rfl (Fld.id _) rfl) fun x8 =>
 Sim.doneS <| Sim.ret (.one (res_c rfl rfl rfl (Fld.id _) rfl rfl))
theorem sp_addr_Four : Spec tb fn_addr_Four [(T.arr 4 T.u8)] [T_api_Addr] (fun a => addr_Four a) :=
  Spec.of f_addr_Four rfl rfl rfl sim_addr_Four

noncomputable def addr_Right (a0 : S_api_Addr) : Option Bool :=
 (orO (decide (a0.V = 6)) ((andO (decide (a0.V = 4)) (let x6 := (⟨(a0.B.l.drop 0).take 4, by rw [List.length_take, List.length_drop, Ar.len]; rfl⟩ : (Ar UInt8 4))
 (addr_Four x6).bind fun x7 =>
 some (cmpB C_api_Addr a0 x7))).bind fun x9 =>
 some x9)).bind fun x10 =>
 some x10
noncomputable def sim_addr_Right (a : Res [T_api_Addr]) : Sim tb ⟨argsT [T_api_Addr] 0 a, []⟩ c_addr_Right.body [] (QRes [T.b] c_addr_Right.res) :=
 Sim.seqI <| Sim.opM (M_box (t := T_api_Addr) 1 rfl rfl (o_t rfl)) fun _ =>
 Sim.op1 (h_mv o_b) <|
 Sim.doneS <| Sim.seqI <| Sim.op1 (h_faC (o_t rfl)) <|
 Sim.opn (h_ldC (t := T_api_Addr) (u := (T.int .i64)) (o_t rfl) rfl rfl F_api_Addr_V rfl rfl) fun x1 =>
 Sim.op (h_cmp (I := (IT.int .i64)) rfl (o_t rfl) o_i) fun x2 =>
 Sim.op1 (h_mv (o_t rfl)) <|
 Sim.or 12 rfl rfl rfl (Grp.op1 (h_faC (o_t rfl)) <|
 Grp.opn (h_ldC (t := T_api_Addr) (u := (T.int .i64)) (o_t rfl) rfl rfl F_api_Addr_V rfl rfl) fun x3 =>
 Grp.op (h_cmp (I := (IT.int .i64)) rfl (o_t rfl) o_i) fun x4 =>
 Grp.op1 (h_mv (o_t rfl)) <|
 Grp.and 7 rfl rfl rfl rfl rfl (Grp.opn (h_ldC (t := T_api_Addr) (u := T_api_Addr) (o_t rfl) rfl rfl (Fld.id _) rfl rfl) fun x5 =>
 Grp.op1 (h_faC (o_t rfl)) <|
 Grp.op1 (h_slaL (k := 0) (m := 4) rfl rfl (o_t rfl) .none (.some o_i) rfl rfl rfl) <|
 Grp.op1 (h_s2aC (o_t rfl) rfl) <|
 Grp.opn (h_ldC (t := T_api_Addr) (u := (T.arr 4 T.u8)) (o_t rfl) rfl rfl (Fld.comp F_api_Addr_B (Fld.piece 16 T.u8 0 4 (by decide))) rfl rfl) fun x6 =>
 Grp.op (h_call1 sp_addr_Four (.one (o_t rfl))) fun x7 =>
 Grp.op (h_eq C_api_Addr rfl rfl (o_t rfl) (o_t rfl)) fun x8 =>
 Grp.nil (o_t rfl)) fun x9 =>
 Grp.nil (o_t rfl)) fun x10 =>
 Sim.op1 (h_mv (o_t rfl)) <|
 Sim.doneS <| Sim.ret (.one (res_t rfl))
theorem sp_addr_Right : Spec tb fn_addr_Right [T_api_Addr] [T.b] (fun a => addr_Right a) :=
  Spec.of f_addr_Right rfl rfl rfl sim_addr_Right

noncomputable def hostport_Right (a0 : S_api_Endpoint) : Option Bool :=
 (addr_Right a0.A).bind fun x2 =>
 (andO x2 (some (decide (1 ≤ a0.Port)))).bind fun x5 =>
 (andO x5 (some (decide (a0.Port ≤ 65535)))).bind fun x8 =>
 some x8
noncomputable def sim_hostport_Right (a : Res [T_api_Endpoint]) : Sim tb ⟨argsT [T_api_Endpoint] 0 a, []⟩ c_hostport_Right.body [] (QRes [T.b] c_hostport_Right.res) :=
 Sim.seqI <| Sim.opM (M_box (t := T_api_Endpoint) 1 rfl rfl (o_t rfl)) fun _ =>
 Sim.op1 (h_mv o_b) <|
 Sim.doneS <| Sim.seqI <| Sim.op1 (h_faC (o_t rfl)) <|
 Sim.opn (h_ldC (t := T_api_Endpoint) (u := T_api_Addr) (o_t rfl) rfl rfl F_api_Endpoint_A rfl rfl) fun x1 =>
 Sim.op (h_call1 sp_addr_Right (.one (o_t rfl))) fun x2 =>
 Sim.op1 (h_mv (o_t rfl)) <|
 Sim.and 3 rfl rfl rfl (Grp.op1 (h_faC (o_t rfl)) <|
 Grp.opn (h_ldC (t := T_api_Endpoint) (u := (T.int .i64)) (o_t rfl) rfl rfl F_api_Endpoint_Port rfl rfl) fun x3 =>
 Grp.op (h_cmp (I := (IT.int .i64)) rfl (o_t rfl) o_i) fun x4 =>
 Grp.nil (o_t rfl)) fun x5 =>
 Sim.op1 (h_mv (o_t rfl)) <|
 Sim.and 3 rfl rfl rfl (Grp.op1 (h_faC (o_t rfl)) <|
 Grp.opn (h_ldC (t := T_api_Endpoint) (u := (T.int .i64)) (o_t rfl) rfl rfl F_api_Endpoint_Port rfl rfl) fun x6 =>
 Grp.op (h_cmp (I := (IT.int .i64)) rfl (o_t rfl) o_i) fun x7 =>
 Grp.nil (o_t rfl)) fun x8 =>
 Sim.op1 (h_mv (o_t rfl)) <|
 Sim.doneS <| Sim.ret (.one (res_t rfl))
theorem sp_hostport_Right : Spec tb fn_hostport_Right [T_api_Endpoint] [T.b] (fun a => hostport_Right a) :=
  Spec.of f_hostport_Right rfl rfl rfl sim_hostport_Right

noncomputable def addr_Width (a0 : S_api_Addr) : Option Int :=
 (addr_Right a0).bind fun x2 =>
 if (!x2) = true then
 some 0
 else
 if (decide (a0.V = 4)) = true then
 some 32
 else
 some 128
noncomputable def sim_addr_Width (a : Res [T_api_Addr]) : Sim tb ⟨argsT [T_api_Addr] 0 a, []⟩ c_addr_Width.body [] (QRes [(T.int .i64)] c_addr_Width.res) :=
 Sim.seqI <| Sim.opM (M_box (t := T_api_Addr) 1 rfl rfl (o_t rfl)) fun _ =>
 Sim.op1 (h_mv o_i) <|
 Sim.doneS <| Sim.seqI <| Sim.blkI <| Sim.seqI <| Sim.opn (h_ldC (t := T_api_Addr) (u := T_api_Addr) (o_t rfl) rfl rfl (Fld.id _) rfl rfl) fun x1 =>
 Sim.op (h_call1 sp_addr_Right (.one (o_t rfl))) fun x2 =>
 Sim.op (h_not (o_t rfl)) fun x3 =>
 Sim.op1 (h_mv (o_t rfl)) <|
 Sim.doneS <| Sim.cond (o_t rfl) (
 Sim.seqI <| Sim.op1 (h_mv o_i) <|
 Sim.doneS <| Sim.ret (.one (res_t rfl))) (
 Sim.seqI <| Sim.op1 (h_faC (o_t rfl)) <|
 Sim.opn (h_ldC (t := T_api_Addr) (u := (T.int .i64)) (o_t rfl) rfl rfl F_api_Addr_V rfl rfl) fun x4 =>
 Sim.op (h_cmp (I := (IT.int .i64)) rfl (o_t rfl) o_i) fun x5 =>
 Sim.op1 (h_mv (o_t rfl)) <|
 Sim.doneS <| Sim.cond (o_t rfl) (
 Sim.seqI <| Sim.op1 (h_mv o_i) <|
 Sim.doneS <| Sim.ret (.one (res_t rfl))) (
 Sim.skip <| Sim.doneB <| Sim.doneS <| Sim.seqI <| Sim.op1 (h_mv o_i) <|
 Sim.doneS <| Sim.ret (.one (res_t rfl))))
theorem sp_addr_Width : Spec tb fn_addr_Width [T_api_Addr] [(T.int .i64)] (fun a => addr_Width a) :=
  Spec.of f_addr_Width rfl rfl rfl sim_addr_Width

noncomputable def addr_Mask (a0 : S_api_Addr) (a1 : Int) : Option S_api_Addr :=
 (addr_Right a0).bind fun x3 =>
 if (!x3) = true then
 some (⟨0, (T.arr 16 T.u8).z⟩ : S_api_Addr)
 else
 (iter (fun (s7 : (Int × S_api_Addr)) =>
 if (decide (s7.1 < 16)) = true then
 let x11 := IntKind.i64.wrap (a1 - IntKind.i64.wrap (8 * s7.1))
 let x13 := if 8 < if 0 > x11 then 0 else x11 then 8 else if 0 > x11 then 0 else x11
 (fun (k16 : Int → Option _) => if (decide (a1 < 0)) = true then
 k16 0
 else
 k16 x13) fun p15 =>
 (idxN 16 s7.1).bind fun x17 =>
 (s7.2.B.l[x17]?).bind fun x18 =>
 (if ((IT.u64.ofI (IntKind.i64.wrap (8 - p15))).toNat : Int) < 0 then none else some (IT.u8.ofI (((255 : UInt8).toNat : Int) * 2 ^ (min ((IT.u64.ofI (IntKind.i64.wrap (8 - p15))).toNat : Int).toNat 8)))).bind fun x21 =>
 let x22 := IT.u8.ofI (bitsR .and .u8 (x18.toNat : Int) (x21.toNat : Int))
 (idxN 16 s7.1).bind fun x23 =>
 (if x23 < 16 then some ({ s7.2 with B := s7.2.B.set x23 x22 }) else none).bind fun x24 =>
 some (.inl (IntKind.i64.wrap (s7.1 + 1), x24))
 else
 some (.inr (.inl s7.2))) (0, a0)).bind (Sum.elim (fun (p8 : S_api_Addr) =>
 some p8) some)
noncomputable def sim_addr_Mask (a : Res [T_api_Addr, (T.int .i64)]) : Sim tb ⟨argsT [T_api_Addr, (T.int .i64)] 0 a, []⟩ c_addr_Mask.body [] (QRes [T_api_Addr] c_addr_Mask.res) :=
 Sim.seqI <| Sim.opM (M_box (t := T_api_Addr) 2 rfl rfl (o_t rfl)) fun _ =>
 Sim.opM (M_alloc (t := T_api_Addr) 4 rfl rfl) fun x1 =>
 Sim.doneS <| Sim.seqI <| Sim.seqI <| Sim.opn (h_ldC (t := T_api_Addr) (u := T_api_Addr) (o_t rfl) rfl rfl (Fld.id _) rfl rfl) fun x2 =>
 Sim.op (h_call1 sp_addr_Right (.one (o_t rfl))) fun x3 =>
 Sim.op (h_not (o_t rfl)) fun x4 =>
 Sim.doneS <| Sim.cond (o_t rfl) (
 Sim.seqI <| Sim.op (h_bld rfl rfl (.nil _)) fun x5 =>
 Sim.opM (M_stC (o_t rfl) (o_t rfl) rfl rfl (Fld.id _) rfl) fun x6 =>
 Sim.doneS <| Sim.ret (.one (res_c rfl rfl rfl (Fld.id _) rfl rfl))) (
 Sim.skip <| Sim.doneS <| Sim.seqI <| Sim.seqI <| Sim.op1 (h_mv o_i) <|
 Sim.doneS <| Sim.blkI <| Sim.loop (id := 0) (σ := (Int × S_api_Addr)) (τ := S_api_Addr) (fun s7 => ⟨[(1, .val (T.int .i64) a.2), (2, .cp 2 0), (4, .cp 4 0), (11, .val (T.int .i64) s7.1)], [(2, .cells [(17, .val T_api_Addr s7.2)]), (4, .cells [(17, .val T_api_Addr x1)])]⟩) (fun p8 => ⟨[(2, .cp 2 0), (4, .cp 4 0)], [(2, .cells [(17, .val T_api_Addr p8)]), (4, .cells [(17, .val T_api_Addr x1)])]⟩) (0, a.1) ⟨⟨⟨rfl, trivial⟩, ⟨⟨rfl, trivial⟩, ⟨⟨rfl, trivial⟩, ⟨⟨rfl, trivial⟩, trivial⟩⟩⟩⟩, ⟨⟨rfl, ⟨trivial, trivial⟩⟩, ⟨⟨rfl, ⟨trivial, trivial⟩⟩, trivial⟩⟩⟩ (fun _ => rfl) (fun s7 =>
 Sim.seqI <| Sim.op (h_cmp (I := (IT.int .i64)) rfl (o_t rfl) o_i) fun x9 =>
 Sim.doneS <| Sim.seqI <| Sim.cond (o_t rfl) (
 Sim.skip <| Sim.doneS <| Sim.seqI <| Sim.blkI <| Sim.seqI <| Sim.op1 (h_mv (o_t rfl)) <|
 Sim.op1 (h_mv (o_t rfl)) <|
 Sim.doneS <| Sim.seqI <| Sim.op1 (h_mv (o_t rfl)) <|
 Sim.op1 (h_mv (o_t rfl)) <|
 Sim.op (h_mul (I := (IT.int .i64)) o_i (o_t rfl)) fun x10 =>
 Sim.op (h_sub (I := (IT.int .i64)) (o_t rfl) (o_t rfl)) fun x11 =>
 Sim.op (h_max (I := (IT.int .i64)) (mx := true) (o_t rfl) o_i) fun x12 =>
 Sim.op (h_max (I := (IT.int .i64)) (mx := false) (o_t rfl) o_i) fun x13 =>
 Sim.op1 (h_mv (o_t rfl)) <|
 Sim.doneS <| Sim.seqI <| Sim.seqI <| Sim.op1 (h_mv (o_t rfl)) <|
 Sim.op (h_cmp (I := (IT.int .i64)) rfl (o_t rfl) o_i) fun x14 =>
 Sim.doneS <| Sim.join (τ := Int) (fun p15 => ⟨[(1, .val (T.int .i64) a.2), (2, .cp 2 0), (4, .cp 4 0), (5, .val (T.int .i64) s7.1), (6, .val (T.int .i64) p15), (11, .val (T.int .i64) s7.1)], [(2, .cells [(17, .val T_api_Addr s7.2)]), (4, .cells [(17, .val T_api_Addr x1)])]⟩) (fun p15 =>
 Sim.doneS <| Sim.op1 (h_mv (o_t rfl)) <|
 Sim.op1 (h_faC (o_t rfl)) <|
 Sim.op (h_iaaC (o_t rfl) (o_t rfl)) fun x17 =>
 Sim.op (h_ldA F_api_Addr_B rfl rfl (o_t rfl) rfl rfl) fun x18 =>
 Sim.op1 (h_mv (o_t rfl)) <|
 Sim.op (h_sub (I := (IT.int .i64)) o_i (o_t rfl)) fun x19 =>
 Sim.op (h_cvi (I := (IT.int .i64)) (J := IT.u64) rfl (o_t rfl)) fun x20 =>
 Sim.op (h_shl (I := IT.u8) (J := IT.u64) (o_u8 255 rfl) (o_t rfl)) fun x21 =>
 Sim.op (h_and (I := IT.u8) (o_t rfl) (o_t rfl)) fun x22 =>
 Sim.op1 (h_faC (o_t rfl)) <|
 Sim.op (h_iaaC (o_t rfl) (o_t rfl)) fun x23 =>
 Sim.opM (M_stA (s := T_api_Addr) F_api_Addr_B rfl (o_t rfl) (o_t rfl) rfl rfl) fun x24 =>
 Sim.doneB <| Sim.doneS <| Sim.op (h_add (I := (IT.int .i64)) (o_t rfl) o_i) fun x25 =>
 Sim.op1 (h_mv (o_t rfl)) <|
 Sim.next (x25, x24) ⟨⟨⟨rfl, trivial⟩, ⟨⟨rfl, trivial⟩, ⟨⟨rfl, trivial⟩, ⟨⟨rfl, trivial⟩, trivial⟩⟩⟩⟩, ⟨⟨rfl, ⟨trivial, trivial⟩⟩, ⟨⟨rfl, ⟨trivial, trivial⟩⟩, trivial⟩⟩⟩) fun k16 => Sim.cond (o_t rfl) (
 Sim.op1 (h_mv o_i) <|
 Sim.weak (k16 0) ⟨⟨⟨rfl, trivial⟩, ⟨⟨rfl, trivial⟩, ⟨⟨rfl, trivial⟩, ⟨⟨rfl, trivial⟩, ⟨⟨rfl, trivial⟩, ⟨⟨rfl, trivial⟩, trivial⟩⟩⟩⟩⟩⟩, ⟨⟨rfl, ⟨trivial, trivial⟩⟩, ⟨⟨rfl, ⟨trivial, trivial⟩⟩, trivial⟩⟩⟩) (
 Sim.skip <| Sim.weak (k16 x13) ⟨⟨⟨rfl, trivial⟩, ⟨⟨rfl, trivial⟩, ⟨⟨rfl, trivial⟩, ⟨⟨rfl, trivial⟩, ⟨⟨rfl, trivial⟩, ⟨⟨rfl, trivial⟩, trivial⟩⟩⟩⟩⟩⟩, ⟨⟨rfl, ⟨trivial, trivial⟩⟩, ⟨⟨rfl, ⟨trivial, trivial⟩⟩, trivial⟩⟩⟩)) (
 Sim.exitS <| Sim.out s7.2 ⟨⟨⟨rfl, trivial⟩, ⟨⟨rfl, trivial⟩, trivial⟩⟩, ⟨⟨rfl, ⟨trivial, trivial⟩⟩, ⟨⟨rfl, ⟨trivial, trivial⟩⟩, trivial⟩⟩⟩)) (fun p8 =>
 Sim.exitB <| Sim.doneS <| Sim.seqI <| Sim.opn (h_ldC (t := T_api_Addr) (u := T_api_Addr) (o_t rfl) rfl rfl (Fld.id _) rfl rfl) fun x26 =>
 Sim.opM (M_stC (o_t rfl) (o_t rfl) rfl rfl (Fld.id _) rfl) fun x27 =>
 Sim.doneS <| Sim.ret (.one (res_c rfl rfl rfl (Fld.id _) rfl rfl))))
theorem sp_addr_Mask : Spec tb fn_addr_Mask [T_api_Addr, (T.int .i64)] [T_api_Addr] (fun a => addr_Mask a.1 a.2) :=
  Spec.of f_addr_Mask rfl rfl rfl sim_addr_Mask

noncomputable def cidr_Of (a0 : S_api_Addr) (a1 : Int) : Option (S_api_Prefix × Int) :=
 (addr_Right a0).bind fun x3 =>
 if (!x3) = true then
 some ((⟨T_api_Addr.z, 0⟩ : S_api_Prefix), 1)
 else
 (orO (decide (a1 < 0)) ((addr_Width a0).bind fun x9 =>
 some (decide (x9 < a1)))).bind fun x11 =>
 if x11 = true then
 some ((⟨T_api_Addr.z, 0⟩ : S_api_Prefix), 6)
 else
 (addr_Mask a0 a1).bind fun x15 =>
 some ((⟨x15, a1⟩ : S_api_Prefix), 0)
noncomputable def sim_cidr_Of (a : Res [T_api_Addr, (T.int .i64)]) : Sim tb ⟨argsT [T_api_Addr, (T.int .i64)] 0 a, []⟩ c_cidr_Of.body [] (QRes [T_api_Prefix, (T.int .i64)] c_cidr_Of.res) :=
 Sim.seqI <| Sim.opM (M_box (t := T_api_Addr) 2 rfl rfl (o_t rfl)) fun _ =>
 Sim.opM (M_alloc (t := T_api_Prefix) 4 rfl rfl) fun x1 =>
 Sim.op1 (h_mv o_i) <|
 Sim.doneS <| Sim.seqI <| Sim.blkI <| Sim.seqI <| Sim.opn (h_ldC (t := T_api_Addr) (u := T_api_Addr) (o_t rfl) rfl rfl (Fld.id _) rfl rfl) fun x2 =>
 Sim.op (h_call1 sp_addr_Right (.one (o_t rfl))) fun x3 =>
 Sim.op (h_not (o_t rfl)) fun x4 =>
 Sim.op1 (h_mv (o_t rfl)) <|
 Sim.doneS <| Sim.cond (o_t rfl) (
 Sim.seqI <| Sim.op (h_bld rfl rfl (.nil _)) fun x5 =>
 Sim.opM (M_stC (o_t rfl) (o_t rfl) rfl rfl (Fld.id _) rfl) fun x6 =>
 Sim.op1 (h_mv o_i) <|
 Sim.doneS <| Sim.ret (.cons (res_c rfl rfl rfl (Fld.id _) rfl rfl) <| .one (res_t rfl))) (
 Sim.seqI <| Sim.op1 (h_mv (o_t rfl)) <|
 Sim.op (h_cmp (I := (IT.int .i64)) rfl (o_t rfl) o_i) fun x7 =>
 Sim.op1 (h_mv (o_t rfl)) <|
 Sim.or 4 rfl rfl rfl (Grp.op1 (h_mv (o_t rfl)) <|
 Grp.opn (h_ldC (t := T_api_Addr) (u := T_api_Addr) (o_t rfl) rfl rfl (Fld.id _) rfl rfl) fun x8 =>
 Grp.op (h_call1 sp_addr_Width (.one (o_t rfl))) fun x9 =>
 Grp.op (h_cmp (I := (IT.int .i64)) rfl (o_t rfl) (o_t rfl)) fun x10 =>
 Grp.nil (o_t rfl)) fun x11 =>
 Sim.op1 (h_mv (o_t rfl)) <|
 Sim.doneS <| Sim.cond (o_t rfl) (
 Sim.seqI <| Sim.op (h_bld rfl rfl (.nil _)) fun x12 =>
 Sim.opM (M_stC (o_t rfl) (o_t rfl) rfl rfl (Fld.id _) rfl) fun x13 =>
 Sim.op1 (h_mv o_i) <|
 Sim.doneS <| Sim.ret (.cons (res_c rfl rfl rfl (Fld.id _) rfl rfl) <| .one (res_t rfl))) (
 Sim.skip <| Sim.doneB <| Sim.doneS <| Sim.seqI <| Sim.opn (h_ldC (t := T_api_Addr) (u := T_api_Addr) (o_t rfl) rfl rfl (Fld.id _) rfl rfl) fun x14 =>
 Sim.op1 (h_mv (o_t rfl)) <|
 Sim.op (h_call1 sp_addr_Mask (.cons (o_t rfl) <| .one (o_t rfl))) fun x15 =>
 Sim.op1 (h_mv (o_t rfl)) <|
 Sim.op (h_bld rfl rfl (.cons F_api_Prefix_A rfl (o_t rfl) <| .cons F_api_Prefix_Bits rfl (o_t rfl) <| .nil _)) fun x16 =>
 Sim.opM (M_stC (o_t rfl) (o_t rfl) rfl rfl (Fld.id _) rfl) fun x17 =>
 Sim.op1 (h_mv o_i) <|
 Sim.doneS <| Sim.ret (.cons (res_c rfl rfl rfl (Fld.id _) rfl rfl) <| .one (res_t rfl))))
theorem sp_cidr_Of : Spec tb fn_cidr_Of [T_api_Addr, (T.int .i64)] [T_api_Prefix, (T.int .i64)] (fun a => cidr_Of a.1 a.2) :=
  Spec.of f_cidr_Of rfl rfl rfl sim_cidr_Of

noncomputable def cidr_Right (a0 : S_api_Prefix) : Option Bool :=
 (cidr_Of a0.A a0.Bits).bind fun x3 =>
 (andO (decide (x3.2 = 0)) (some (cmpB C_api_Prefix x3.1 a0))).bind fun x12 =>
 some x12
noncomputable def sim_cidr_Right (a : Res [T_api_Prefix]) : Sim tb ⟨argsT [T_api_Prefix] 0 a, []⟩ c_cidr_Right.body [] (QRes [T.b] c_cidr_Right.res) :=
 Sim.seqI <| Sim.opM (M_box (t := T_api_Prefix) 1 rfl rfl (o_t rfl)) fun _ =>
 Sim.op1 (h_mv o_b) <|
 Sim.doneS <| Sim.seqI <| Sim.op1 (h_faC (o_t rfl)) <|
 Sim.opn (h_ldC (t := T_api_Prefix) (u := T_api_Addr) (o_t rfl) rfl rfl F_api_Prefix_A rfl rfl) fun x1 =>
 Sim.op1 (h_faC (o_t rfl)) <|
 Sim.opn (h_ldC (t := T_api_Prefix) (u := (T.int .i64)) (o_t rfl) rfl rfl F_api_Prefix_Bits rfl rfl) fun x2 =>
 Sim.op (h_callN sp_cidr_Of (.cons (o_t rfl) <| .one (o_t rfl))) fun x3 =>
 Sim.op1 (h_mv (o_t rfl)) <|
 Sim.opn (h_ext (o_t rfl) rfl) fun x4 =>
 Sim.opn (h_ext (o_t rfl) rfl) fun x5 =>
 Sim.opM (M_alloc (t := T_api_Prefix) 3 rfl rfl) fun x6 =>
 Sim.opM (M_stC (o_t rfl) (o_t rfl) rfl rfl (Fld.id _) rfl) fun x7 =>
 Sim.op1 (h_mv (o_t rfl)) <|
 Sim.doneS <| Sim.seqI <| Sim.op1 (h_mv (o_t rfl)) <|
 Sim.op (h_cmp (I := (IT.int .i64)) rfl (o_t rfl) o_i) fun x8 =>
 Sim.op1 (h_mv (o_t rfl)) <|
 Sim.and 3 rfl rfl rfl (Grp.opn (h_ldC (t := T_api_Prefix) (u := T_api_Prefix) (o_t rfl) rfl rfl (Fld.id _) rfl rfl) fun x9 =>
 Grp.opn (h_ldC (t := T_api_Prefix) (u := T_api_Prefix) (o_t rfl) rfl rfl (Fld.id _) rfl rfl) fun x10 =>
 Grp.op (h_eq C_api_Prefix rfl rfl (o_t rfl) (o_t rfl)) fun x11 =>
 Grp.nil (o_t rfl)) fun x12 =>
 Sim.op1 (h_mv (o_t rfl)) <|
 Sim.doneS <| Sim.ret (.one (res_t rfl))
theorem sp_cidr_Right : Spec tb fn_cidr_Right [T_api_Prefix] [T.b] (fun a => cidr_Right a) :=
  Spec.of f_cidr_Right rfl rfl rfl sim_cidr_Right

noncomputable def iniwrite_wrong_1 (a0 : S_api_Prefix) : Option Bool :=
 (cidr_Right a0).bind fun x2 =>
 some (!x2)
noncomputable def sim_iniwrite_wrong_1 (a : Res [T_api_Prefix]) : Sim tb ⟨argsT [T_api_Prefix] 0 a, []⟩ c_iniwrite_wrong_1.body [] (QRes [T.b] c_iniwrite_wrong_1.res) :=
 Sim.seqI <| Sim.opM (M_box (t := T_api_Prefix) 1 rfl rfl (o_t rfl)) fun _ =>
 Sim.op1 (h_mv o_b) <|
 Sim.doneS <| Sim.seqI <| Sim.opn (h_ldC (t := T_api_Prefix) (u := T_api_Prefix) (o_t rfl) rfl rfl (Fld.id _) rfl rfl) fun x1 =>
 Sim.op (h_call1 sp_cidr_Right (.one (o_t rfl))) fun x2 =>
 Sim.op (h_not (o_t rfl)) fun x3 =>
 Sim.op1 (h_mv (o_t rfl)) <|
 Sim.doneS <| Sim.ret (.one (res_t rfl))
theorem sp_iniwrite_wrong_1 : Spec tb fn_iniwrite_wrong_1 [T_api_Prefix] [T.b] (fun a => iniwrite_wrong_1 a) :=
  Spec.of f_iniwrite_wrong_1 rfl rfl rfl sim_iniwrite_wrong_1

noncomputable def iniwrite_wrong (a0 : S_api_IniPeer) : Option Bool :=
 (keys_Zero a0.Key).bind fun x2 =>
 (orO x2 ((iniwrite_short a0.Keep).bind fun x4 =>
 some (!x4))).bind fun x6 =>
 (orO x6 (some (decide (64 < (a0.Allowed.l.length : Int))))).bind fun x10 =>
 if x10 = true then
 some true
 else
 (hostport_None a0.End).bind fun x12 =>
 (andO (!x12) ((hostport_Right a0.End).bind fun x15 =>
 some (!x15))).bind fun x17 =>
 (fun (k18 : Bool → Option _) => if x17 = true then
 k18 true
 else
 (((iter (fun (s24 : Int) =>
 if (decide (s24 < (a0.Allowed.l.length : Int))) = true then
 (idx a0.Allowed.l s24).bind fun x27 =>
 (iniwrite_wrong_1 x27).bind fun x29 =>
 if x29 = true then
 (some s24).map fun r => .inr (.inr r)
 else
 some (.inl (IntKind.i64.wrap (s24 + 1)))
 else
 some (.inr (.inl ()))) 0).bind (Sum.elim (fun (p25 : Unit) =>
 some (-1)) some) : Option Int).bind (fun (p22 : Int) =>
 some (decide (0 ≤ p22))) : Option Bool).bind (fun (p21 : Bool) =>
 k18 p21)) fun x19 =>
 some x19
noncomputable def sim_iniwrite_wrong (a : Res [T_api_IniPeer]) : Sim tb ⟨argsT [T_api_IniPeer] 0 a, []⟩ c_iniwrite_wrong.body [] (QRes [T.b] c_iniwrite_wrong.res) :=
 Sim.seqI <| Sim.opM (M_box (t := T_api_IniPeer) 1 rfl rfl (o_t rfl)) fun _ =>
 Sim.op1 (h_mv o_b) <|
 Sim.doneS <| Sim.seqI <| Sim.seqI <| Sim.op1 (h_faC (o_t rfl)) <|
 Sim.opn (h_ldC (t := T_api_IniPeer) (u := (T.arr 32 T.u8)) (o_t rfl) rfl rfl F_api_IniPeer_Key rfl rfl) fun x1 =>
 Sim.op (h_call1 sp_keys_Zero (.one (o_t rfl))) fun x2 =>
 Sim.op1 (h_mv (o_t rfl)) <|
 Sim.or 4 rfl rfl rfl (Grp.op1 (h_faC (o_t rfl)) <|
 Grp.opn (h_ldC (t := T_api_IniPeer) (u := (T.int .i64)) (o_t rfl) rfl rfl F_api_IniPeer_Keep rfl rfl) fun x3 =>
 Grp.op (h_call1 sp_iniwrite_short (.one (o_t rfl))) fun x4 =>
 Grp.op (h_not (o_t rfl)) fun x5 =>
 Grp.nil (o_t rfl)) fun x6 =>
 Sim.op1 (h_mv (o_t rfl)) <|
 Sim.or 4 rfl rfl rfl (Grp.op1 (h_faC (o_t rfl)) <|
 Grp.opn (h_ldC (t := T_api_IniPeer) (u := (T.sl T_api_Prefix)) (o_t rfl) rfl rfl F_api_IniPeer_Allowed rfl rfl) fun x7 =>
 Grp.op (h_len (o_t rfl)) fun x8 =>
 Grp.op (h_cmp (I := (IT.int .i64)) rfl (o_t rfl) o_i) fun x9 =>
 Grp.nil (o_t rfl)) fun x10 =>
 Sim.doneS <| Sim.cond (o_t rfl) (
 Sim.seqI <| Sim.op1 (h_mv o_b) <|
 Sim.doneS <| Sim.ret (.one (res_t rfl))) (
 Sim.skip <| Sim.doneS <| Sim.seqI <| Sim.op1 (h_faC (o_t rfl)) <|
 Sim.opn (h_ldC (t := T_api_IniPeer) (u := T_api_Endpoint) (o_t rfl) rfl rfl F_api_IniPeer_End rfl rfl) fun x11 =>
 Sim.op (h_call1 sp_hostport_None (.one (o_t rfl))) fun x12 =>
 Sim.op (h_not (o_t rfl)) fun x13 =>
 Sim.op1 (h_mv (o_t rfl)) <|
 Sim.and 4 rfl rfl rfl (Grp.op1 (h_faC (o_t rfl)) <|
 Grp.opn (h_ldC (t := T_api_IniPeer) (u := T_api_Endpoint) (o_t rfl) rfl rfl F_api_IniPeer_End rfl rfl) fun x14 =>
 Grp.op (h_call1 sp_hostport_Right (.one (o_t rfl))) fun x15 =>
 Grp.op (h_not (o_t rfl)) fun x16 =>
 Grp.nil (o_t rfl)) fun x17 =>
 Sim.op1 (h_mv (o_t rfl)) <|
 Sim.orI ⟨[], []⟩ 3 rfl rfl rfl (fun _ => ⟨⟨⟨rfl, trivial⟩, trivial⟩, trivial⟩) (fun x19 =>
 Sim.op1 (h_mv (o_t rfl)) <|
 Sim.doneS <| Sim.ret (.one (res_t rfl))) fun k18 =>
 Sim.op1 (h_faC (o_t rfl)) <|
 Sim.opn (h_ldC (t := T_api_IniPeer) (u := (T.sl T_api_Prefix)) (o_t rfl) rfl rfl F_api_IniPeer_Allowed rfl rfl) fun x20 =>
 Sim.inl (τ := Bool) (φs := [.val (T.sl T_api_Prefix) x20, .fnv (.func fn_iniwrite_wrong_1) [] []]) (n := 1) (L := [(28, .val T.b false)]) (Γr := (fun p21 => ⟨[(0, .val T.b p21)], [(2000028, .ghost (.val T.b false))]⟩)) 2000000 (fun p21 => ⟨[(31, .val T.b p21), (28, .val T.b false)], []⟩) f_slices_ContainsFunc_api_Prefix rfl rfl rfl (c_call rfl) (.cons (s_o (o_t rfl)) <| .cons (s_o o_fn) <| .nil) ⟨⟨rfl, rfl⟩, trivial⟩ rfl (
 Sim.seqI <| Sim.op1 (h_mv o_b) <|
 Sim.doneS <| Sim.seqI <| Sim.op1 (h_mv (o_t rfl)) <|
 Sim.op1 (h_mv (o_t rfl)) <|
 Sim.inl (τ := Int) (φs := [.val (T.sl T_api_Prefix) x20, .fnv (.func fn_iniwrite_wrong_1) [] []]) (n := 1) (L := []) (Γr := (fun p22 => ⟨[(0, .val (T.int .i64) p22)], [(2000028, .ghost (.val T.b false))]⟩)) 2100000 (fun p22 => ⟨[(7, .val (T.int .i64) p22)], [(2000028, .ghost (.val T.b false))]⟩) f_slices_IndexFunc_api_Prefix rfl rfl rfl (c_call rfl) (.cons (s_o (o_t rfl)) <| .cons (s_o (o_t rfl)) <| .nil) trivial rfl (
 Sim.seqI <| Sim.op1 (h_mv o_i) <|
 Sim.doneS <| Sim.seqI <| Sim.seqI <| Sim.op1 (h_mv (o_t rfl)) <|
 Sim.op (h_len (o_t rfl)) fun x23 =>
 Sim.op1 (h_mv o_i) <|
 Sim.doneS <| Sim.blkI <| Sim.loop (id := 0) (σ := Int) (τ := Unit) (fun s24 => ⟨[(0, .val (T.sl T_api_Prefix) x20), (1, .fnv (.func fn_iniwrite_wrong_1) [] []), (7, .val (T.int .i64) x23), (8, .val (T.int .i64) s24)], [(2000028, .ghost (.val T.b false))]⟩) (fun p25 => ⟨[], [(2000028, .ghost (.val T.b false))]⟩) 0 ⟨⟨⟨rfl, trivial⟩, ⟨⟨rfl, trivial⟩, ⟨⟨rfl, trivial⟩, ⟨⟨rfl, trivial⟩, trivial⟩⟩⟩⟩, ⟨⟨rfl, trivial⟩, trivial⟩⟩ (fun _ => rfl) (fun s24 =>
 Sim.seqI <| Sim.op (h_cmp (I := (IT.int .i64)) rfl (o_t rfl) (o_t rfl)) fun x26 =>
 Sim.doneS <| Sim.seqI <| Sim.cond (o_t rfl) (
 Sim.skip <| Sim.doneS <| Sim.seqI <| Sim.blkI <| Sim.seqI <| Sim.op1 (h_mv (o_t rfl)) <|
 Sim.op1 (h_mv (o_t rfl)) <|
 Sim.doneS <| Sim.seqI <| Sim.op1 (h_mv (o_t rfl)) <|
 Sim.op1 (h_mv (o_t rfl)) <|
 Sim.op1 (h_mv (o_t rfl)) <|
 Sim.op (h_ias rfl (o_t rfl) (o_t rfl)) fun x27 =>
 Sim.opn (h_ld rfl rfl (o_t rfl)) fun x28 =>
 Sim.op (h_callS1 sp_iniwrite_wrong_1 (c_callv (o_t rfl) rfl) (.one (s_o (o_t rfl)))) fun x29 =>
 Sim.doneS <| Sim.cond (o_t rfl) (
 Sim.seqI <| Sim.op1 (h_mv (o_t rfl)) <|
 Sim.op1 (h_mv (o_t rfl)) <|
 Sim.doneS <| Sim.outRet <| Sim.retIn s24 (.cons (rg_t rfl) <| .nil) ⟨⟨⟨rfl, trivial⟩, trivial⟩, ⟨⟨rfl, trivial⟩, trivial⟩⟩) (
 Sim.skip <| Sim.doneB <| Sim.doneS <| Sim.op (h_add (I := (IT.int .i64)) (o_t rfl) o_i) fun x30 =>
 Sim.op1 (h_mv (o_t rfl)) <|
 Sim.next x30 ⟨⟨⟨rfl, trivial⟩, ⟨⟨rfl, trivial⟩, ⟨⟨rfl, trivial⟩, ⟨⟨rfl, trivial⟩, trivial⟩⟩⟩⟩, ⟨⟨rfl, trivial⟩, trivial⟩⟩)) (
 Sim.exitS <| Sim.out () ⟨trivial, ⟨⟨rfl, trivial⟩, trivial⟩⟩)) (fun p25 =>
 Sim.exitB <| Sim.doneS <| Sim.seqI <| Sim.op1 (h_mv o_i) <|
 Sim.doneS <| Sim.retIn (-1) (.cons (rg_t rfl) <| .nil) ⟨⟨⟨rfl, trivial⟩, trivial⟩, ⟨⟨rfl, trivial⟩, trivial⟩⟩)) (fun p22 => BackOk.some' ⟨⟨rfl, trivial⟩, trivial⟩ rfl (.one rfl) trivial trivial) (.one fun p22 =>
 Sim.op (h_cmp (I := (IT.int .i64)) rfl (o_t rfl) o_i) fun x31 =>
 Sim.op1 (h_mv (o_t rfl)) <|
 Sim.doneS <| Sim.retIn x31 (.cons (rg_t rfl) <| .nil) ⟨⟨⟨rfl, trivial⟩, trivial⟩, ⟨⟨rfl, trivial⟩, trivial⟩⟩)) (fun p21 => BackOk.some' trivial rfl (.one rfl) trivial ⟨⟨rfl, trivial⟩, trivial⟩) (.one fun p21 =>
 Sim.pickI (Γ0 := ⟨[], []⟩) rfl (o_t rfl) ⟨⟨⟨rfl, trivial⟩, trivial⟩, trivial⟩ k18))
theorem sp_iniwrite_wrong : Spec tb fn_iniwrite_wrong [T_api_IniPeer] [T.b] (fun a => iniwrite_wrong a) :=
  Spec.of f_iniwrite_wrong rfl rfl rfl sim_iniwrite_wrong

noncomputable def iniwrite_Right (a0 : S_api_Ini) : Option Bool :=
 (iniwrite_short a0.Port).bind fun x2 =>
 (andO x2 (some (decide ((a0.Peers.l.length : Int) ≤ 64)))).bind fun x6 =>
 (fun (k7 : Bool → Option _) => if x6 = true then
 (((iter (fun (s13 : Int) =>
 if (decide (s13 < (a0.Peers.l.length : Int))) = true then
 (idx a0.Peers.l s13).bind fun x16 =>
 (iniwrite_wrong x16).bind fun x18 =>
 if x18 = true then
 (some s13).map fun r => .inr (.inr r)
 else
 some (.inl (IntKind.i64.wrap (s13 + 1)))
 else
 some (.inr (.inl ()))) 0).bind (Sum.elim (fun (p14 : Unit) =>
 some (-1)) some) : Option Int).bind (fun (p11 : Int) =>
 some (decide (0 ≤ p11))) : Option Bool).bind (fun (p10 : Bool) =>
 k7 (!p10))
 else
 k7 false) fun x8 =>
 some x8
noncomputable def sim_iniwrite_Right (a : Res [T_api_Ini]) : Sim tb ⟨argsT [T_api_Ini] 0 a, []⟩ c_iniwrite_Right.body [] (QRes [T.b] c_iniwrite_Right.res) :=
 Sim.seqI <| Sim.opM (M_box (t := T_api_Ini) 1 rfl rfl (o_t rfl)) fun _ =>
 Sim.op1 (h_mv o_b) <|
 Sim.doneS <| Sim.seqI <| Sim.op1 (h_faC (o_t rfl)) <|
 Sim.opn (h_ldC (t := T_api_Ini) (u := (T.int .i64)) (o_t rfl) rfl rfl F_api_Ini_Port rfl rfl) fun x1 =>
 Sim.op (h_call1 sp_iniwrite_short (.one (o_t rfl))) fun x2 =>
 Sim.op1 (h_mv (o_t rfl)) <|
 Sim.and 4 rfl rfl rfl (Grp.op1 (h_faC (o_t rfl)) <|
 Grp.opn (h_ldC (t := T_api_Ini) (u := (T.sl T_api_IniPeer)) (o_t rfl) rfl rfl F_api_Ini_Peers rfl rfl) fun x3 =>
 Grp.op (h_len (o_t rfl)) fun x4 =>
 Grp.op (h_cmp (I := (IT.int .i64)) rfl (o_t rfl) o_i) fun x5 =>
 Grp.nil (o_t rfl)) fun x6 =>
 Sim.op1 (h_mv (o_t rfl)) <|
 Sim.andI ⟨[], []⟩ 4 rfl rfl rfl (fun _ => ⟨⟨⟨rfl, trivial⟩, trivial⟩, trivial⟩) (fun x8 =>
 Sim.op1 (h_mv (o_t rfl)) <|
 Sim.doneS <| Sim.ret (.one (res_t rfl))) fun k7 =>
 Sim.op1 (h_faC (o_t rfl)) <|
 Sim.opn (h_ldC (t := T_api_Ini) (u := (T.sl T_api_IniPeer)) (o_t rfl) rfl rfl F_api_Ini_Peers rfl rfl) fun x9 =>
 Sim.inl (τ := Bool) (φs := [.val (T.sl T_api_IniPeer) x9, .fnv (.func fn_iniwrite_wrong) [] []]) (n := 1) (L := [(12, .val T.b true)]) (Γr := (fun p10 => ⟨[(0, .val T.b p10)], [(2000012, .ghost (.val T.b true))]⟩)) 2000000 (fun p10 => ⟨[(15, .val T.b p10), (12, .val T.b true)], []⟩) f_slices_ContainsFunc_api_IniPeer rfl rfl rfl (c_call rfl) (.cons (s_o (o_t rfl)) <| .cons (s_o o_fn) <| .nil) ⟨⟨rfl, rfl⟩, trivial⟩ rfl (
 Sim.seqI <| Sim.op1 (h_mv o_b) <|
 Sim.doneS <| Sim.seqI <| Sim.op1 (h_mv (o_t rfl)) <|
 Sim.op1 (h_mv (o_t rfl)) <|
 Sim.inl (τ := Int) (φs := [.val (T.sl T_api_IniPeer) x9, .fnv (.func fn_iniwrite_wrong) [] []]) (n := 1) (L := []) (Γr := (fun p11 => ⟨[(0, .val (T.int .i64) p11)], [(2000012, .ghost (.val T.b true))]⟩)) 2100000 (fun p11 => ⟨[(7, .val (T.int .i64) p11)], [(2000012, .ghost (.val T.b true))]⟩) f_slices_IndexFunc_api_IniPeer rfl rfl rfl (c_call rfl) (.cons (s_o (o_t rfl)) <| .cons (s_o (o_t rfl)) <| .nil) trivial rfl (
 Sim.seqI <| Sim.op1 (h_mv o_i) <|
 Sim.doneS <| Sim.seqI <| Sim.seqI <| Sim.op1 (h_mv (o_t rfl)) <|
 Sim.op (h_len (o_t rfl)) fun x12 =>
 Sim.op1 (h_mv o_i) <|
 Sim.doneS <| Sim.blkI <| Sim.loop (id := 0) (σ := Int) (τ := Unit) (fun s13 => ⟨[(0, .val (T.sl T_api_IniPeer) x9), (1, .fnv (.func fn_iniwrite_wrong) [] []), (7, .val (T.int .i64) x12), (8, .val (T.int .i64) s13)], [(2000012, .ghost (.val T.b true))]⟩) (fun p14 => ⟨[], [(2000012, .ghost (.val T.b true))]⟩) 0 ⟨⟨⟨rfl, trivial⟩, ⟨⟨rfl, trivial⟩, ⟨⟨rfl, trivial⟩, ⟨⟨rfl, trivial⟩, trivial⟩⟩⟩⟩, ⟨⟨rfl, trivial⟩, trivial⟩⟩ (fun _ => rfl) (fun s13 =>
 Sim.seqI <| Sim.op (h_cmp (I := (IT.int .i64)) rfl (o_t rfl) (o_t rfl)) fun x15 =>
 Sim.doneS <| Sim.seqI <| Sim.cond (o_t rfl) (
 Sim.skip <| Sim.doneS <| Sim.seqI <| Sim.blkI <| Sim.seqI <| Sim.op1 (h_mv (o_t rfl)) <|
 Sim.op1 (h_mv (o_t rfl)) <|
 Sim.doneS <| Sim.seqI <| Sim.op1 (h_mv (o_t rfl)) <|
 Sim.op1 (h_mv (o_t rfl)) <|
 Sim.op1 (h_mv (o_t rfl)) <|
 Sim.op (h_ias rfl (o_t rfl) (o_t rfl)) fun x16 =>
 Sim.opn (h_ld rfl rfl (o_t rfl)) fun x17 =>
 Sim.op (h_callS1 sp_iniwrite_wrong (c_callv (o_t rfl) rfl) (.one (s_o (o_t rfl)))) fun x18 =>
 Sim.doneS <| Sim.cond (o_t rfl) (
 Sim.seqI <| Sim.op1 (h_mv (o_t rfl)) <|
 Sim.op1 (h_mv (o_t rfl)) <|
 Sim.doneS <| Sim.outRet <| Sim.retIn s13 (.cons (rg_t rfl) <| .nil) ⟨⟨⟨rfl, trivial⟩, trivial⟩, ⟨⟨rfl, trivial⟩, trivial⟩⟩) (
 Sim.skip <| Sim.doneB <| Sim.doneS <| Sim.op (h_add (I := (IT.int .i64)) (o_t rfl) o_i) fun x19 =>
 Sim.op1 (h_mv (o_t rfl)) <|
 Sim.next x19 ⟨⟨⟨rfl, trivial⟩, ⟨⟨rfl, trivial⟩, ⟨⟨rfl, trivial⟩, ⟨⟨rfl, trivial⟩, trivial⟩⟩⟩⟩, ⟨⟨rfl, trivial⟩, trivial⟩⟩)) (
 Sim.exitS <| Sim.out () ⟨trivial, ⟨⟨rfl, trivial⟩, trivial⟩⟩)) (fun p14 =>
 Sim.exitB <| Sim.doneS <| Sim.seqI <| Sim.op1 (h_mv o_i) <|
 Sim.doneS <| Sim.retIn (-1) (.cons (rg_t rfl) <| .nil) ⟨⟨⟨rfl, trivial⟩, trivial⟩, ⟨⟨rfl, trivial⟩, trivial⟩⟩)) (fun p11 => BackOk.some' ⟨⟨rfl, trivial⟩, trivial⟩ rfl (.one rfl) trivial trivial) (.one fun p11 =>
 Sim.op (h_cmp (I := (IT.int .i64)) rfl (o_t rfl) o_i) fun x20 =>
 Sim.op1 (h_mv (o_t rfl)) <|
 Sim.doneS <| Sim.retIn x20 (.cons (rg_t rfl) <| .nil) ⟨⟨⟨rfl, trivial⟩, trivial⟩, ⟨⟨rfl, trivial⟩, trivial⟩⟩)) (fun p10 => BackOk.some' trivial rfl (.one rfl) trivial ⟨⟨rfl, trivial⟩, trivial⟩) (.one fun p10 =>
 Sim.op (h_not (o_t rfl)) fun x21 =>
 Sim.pickI (Γ0 := ⟨[], []⟩) rfl (o_t rfl) ⟨⟨⟨rfl, trivial⟩, trivial⟩, trivial⟩ k7)
theorem sp_iniwrite_Right : Spec tb fn_iniwrite_Right [T_api_Ini] [T.b] (fun a => iniwrite_Right a) :=
  Spec.of f_iniwrite_Right rfl rfl rfl sim_iniwrite_Right

noncomputable def strconv_FormatUint (a0 : UInt64) (a1 : Int) : Option Str :=
 none
noncomputable def sim_strconv_FormatUint (a : Res [T.u64, (T.int .i64)]) : Sim tb ⟨argsT [T.u64, (T.int .i64)] 0 a, []⟩ c_strconv_FormatUint.body [] (QRes [T.str] c_strconv_FormatUint.res) :=
 Sim.seqI <| Sim.op1 (h_mv o_s) <|
 Sim.doneS <| Sim.seqI <| Sim.op1 (h_mv (o_t rfl)) <|
 Sim.op1 (h_mv (o_t rfl)) <|
 Sim.stop
theorem sp_strconv_FormatUint : Spec tb fn_strconv_FormatUint [T.u64, (T.int .i64)] [T.str] (fun a => strconv_FormatUint a.1 a.2) :=
  Spec.of f_strconv_FormatUint rfl rfl rfl sim_strconv_FormatUint

noncomputable def decimal_Text (a0 : UInt64) : Option Str :=
 (strconv_FormatUint a0 10).bind fun x1 =>
 some x1
noncomputable def sim_decimal_Text (a : Res [T.u64]) : Sim tb ⟨argsT [T.u64] 0 a, []⟩ c_decimal_Text.body [] (QRes [T.str] c_decimal_Text.res) :=
 Sim.seqI <| Sim.op1 (h_mv o_s) <|
 Sim.doneS <| Sim.seqI <| Sim.op1 (h_mv (o_t rfl)) <|
 Sim.op (h_call1 sp_strconv_FormatUint (.cons (o_t rfl) <| .one o_i)) fun x1 =>
 Sim.op1 (h_mv (o_t rfl)) <|
 Sim.doneS <| Sim.ret (.one (res_t rfl))
theorem sp_decimal_Text : Spec tb fn_decimal_Text [T.u64] [T.str] (fun a => decimal_Text a) :=
  Spec.of f_decimal_Text rfl rfl rfl sim_decimal_Text

noncomputable def sixtyfour_Encode (a0 : (GS UInt8)) : Option Str :=
 (iter (fun (s2 : Unit) =>
 if (decide (0 < (a0.l.length : Int))) = true then
 let x7 := if 3 < (a0.l.length : Int) then 3 else (a0.l.length : Int)
 (iter (fun (s8 : (UInt32 × Int)) =>
 if (decide (s8.2 < 3)) = true then
 (if ((8 : UInt64).toNat : Int) < 0 then none else some (IT.u32.ofI ((s8.1.toNat : Int) * 2 ^ (min ((8 : UInt64).toNat : Int).toNat 32)))).bind fun x11 =>
 if (decide (s8.2 < x7)) = true then
 (idx a0.l s8.2).bind fun x13 =>
 let x16 := IT.u32.ofI (bitsR .or .u32 (x11.toNat : Int) ((IT.u32.ofI (x13.toNat : Int)).toNat : Int))
 some (.inl (x16, IntKind.i64.wrap (s8.2 + 1)))
 else
 some (.inl (x11, IntKind.i64.wrap (s8.2 + 1)))
 else
 some (.inr (.inl s8.1))) ((0 : UInt32), 0)).bind (Sum.elim (fun (p9 : UInt32) =>
 (iter (fun (s20 : (Int × Str)) =>
 if (decide (s20.1 < IntKind.i64.wrap (x7 + 1))) = true then
 let x24 := IntKind.i64.wrap (18 - IntKind.i64.wrap (6 * s20.1))
 (if ((IT.u64.ofI x24).toNat : Int) < 0 then none else some (IT.u32.ofI (Int.fdiv (p9.toNat : Int) (2 ^ (min ((IT.u64.ofI x24).toNat : Int).toNat 32))))).bind fun x26 =>
 let x27 := IT.u32.ofI (bitsR .and .u32 (x26.toNat : Int) ((63 : UInt32).toNat : Int))
 (idx ([65, 66, 67, 68, 69, 70, 71, 72, 73, 74, 75, 76, 77, 78, 79, 80, 81, 82, 83, 84, 85, 86, 87, 88, 89, 90, 97, 98, 99, 100, 101, 102, 103, 104, 105, 106, 107, 108, 109, 110, 111, 112, 113, 114, 115, 116, 117, 118, 119, 120, 121, 122, 48, 49, 50, 51, 52, 53, 54, 55, 56, 57, 43, 47] : Str) (x27.toNat : Int)).bind fun x28 =>
 (bldG s20.2 [x28]).bind fun x29 =>
 some (.inl (IntKind.i64.wrap (s20.1 + 1), x29))
 else
 some (.inr (.inl s20.2))) (0, [])).bind (Sum.elim (fun (p21 : Str) =>
 none) some)) some)
 else
 some (.inr (.inl ()))) ()).bind (Sum.elim (fun (p3 : Unit) =>
 (bldT false []).bind fun x32 =>
 some x32) some)
noncomputable def sim_sixtyfour_Encode (a : Res [(T.sl T.u8)]) : Sim tb ⟨argsT [(T.sl T.u8)] 0 a, []⟩ c_sixtyfour_Encode.body [] (QRes [T.str] c_sixtyfour_Encode.res) :=
 Sim.seqI <| Sim.op1 (h_mv o_s) <|
 Sim.doneS <| Sim.seqI <| Sim.opM (M_bldA 3 5 rfl rfl) fun x1 =>
 Sim.doneS <| Sim.seqI <| Sim.blkI <| Sim.loop (id := 0) (σ := Unit) (τ := Unit) (fun s2 => ⟨[(0, .val (T.sl T.u8) a), (3, .own 3)], [(3, .dom (DBld 65 5 false) x1)]⟩) (fun p3 => ⟨[(3, .own 3)], [(3, .dom (DBld 65 5 false) x1)]⟩) () ⟨⟨⟨rfl, trivial⟩, ⟨⟨rfl, trivial⟩, trivial⟩⟩, ⟨⟨rfl, trivial⟩, trivial⟩⟩ (fun _ => rfl) (fun s2 =>
 Sim.seqI <| Sim.seqI <| Sim.op1 (h_mv (o_t rfl)) <|
 Sim.op (h_len (o_t rfl)) fun x4 =>
 Sim.op (h_cmp (I := (IT.int .i64)) rfl (o_t rfl) o_i) fun x5 =>
 Sim.doneS <| Sim.cond (o_t rfl) (
 Sim.skip <| Sim.doneS <| Sim.blkI <| Sim.seqI <| Sim.op1 (h_mv (o_t rfl)) <|
 Sim.op (h_len (o_t rfl)) fun x6 =>
 Sim.op (h_max (I := (IT.int .i64)) (mx := false) (o_t rfl) o_i) fun x7 =>
 Sim.op1 (h_mv (o_t rfl)) <|
 Sim.doneS <| Sim.seqI <| Sim.op1 (h_mv (o_u32 0 rfl)) <|
 Sim.doneS <| Sim.seqI <| Sim.seqI <| Sim.op1 (h_mv o_i) <|
 Sim.doneS <| Sim.blkI <| Sim.loop (id := 2) (σ := (UInt32 × Int)) (τ := UInt32) (fun s8 => ⟨[(0, .val (T.sl T.u8) a), (3, .own 3), (4, .val (T.int .i64) x7), (5, .val T.u32 s8.1), (14, .val (T.int .i64) s8.2)], [(3, .dom (DBld 65 5 false) x1)]⟩) (fun p9 => ⟨[(0, .val (T.sl T.u8) a), (3, .own 3), (4, .val (T.int .i64) x7), (5, .val T.u32 p9)], [(3, .dom (DBld 65 5 false) x1)]⟩) ((0 : UInt32), 0) ⟨⟨⟨rfl, trivial⟩, ⟨⟨rfl, trivial⟩, ⟨⟨rfl, trivial⟩, ⟨⟨rfl, trivial⟩, ⟨⟨rfl, trivial⟩, trivial⟩⟩⟩⟩⟩, ⟨⟨rfl, trivial⟩, trivial⟩⟩ (fun _ => rfl) (fun s8 =>
 Sim.seqI <| Sim.op (h_cmp (I := (IT.int .i64)) rfl (o_t rfl) o_i) fun x10 =>
 Sim.doneS <| Sim.seqI <| Sim.cond (o_t rfl) (
 Sim.skip <| Sim.doneS <| Sim.seqI <| Sim.blkI <| Sim.seqI <| Sim.op1 (h_mv (o_t rfl)) <|
 Sim.op1 (h_mv (o_t rfl)) <|
 Sim.doneS <| Sim.seqI <| Sim.op1 (h_mv (o_t rfl)) <|
 Sim.op (h_shl (I := IT.u32) (J := IT.u64) (o_t rfl) (o_u64 8 rfl)) fun x11 =>
 Sim.op1 (h_mv (o_t rfl)) <|
 Sim.doneS <| Sim.seqI <| Sim.op1 (h_mv (o_t rfl)) <|
 Sim.op1 (h_mv (o_t rfl)) <|
 Sim.op (h_cmp (I := (IT.int .i64)) rfl (o_t rfl) (o_t rfl)) fun x12 =>
 Sim.doneS <| Sim.cond (o_t rfl) (
 Sim.op1 (h_mv (o_t rfl)) <|
 Sim.op1 (h_mv (o_t rfl)) <|
 Sim.op1 (h_mv (o_t rfl)) <|
 Sim.op (h_ias rfl (o_t rfl) (o_t rfl)) fun x13 =>
 Sim.opn (h_ld rfl rfl (o_t rfl)) fun x14 =>
 Sim.op (h_cvi (I := IT.u8) (J := IT.u32) rfl (o_t rfl)) fun x15 =>
 Sim.op (h_or (I := IT.u32) (o_t rfl) (o_t rfl)) fun x16 =>
 Sim.op1 (h_mv (o_t rfl)) <|
 Sim.doneB <| Sim.doneS <| Sim.op (h_add (I := (IT.int .i64)) (o_t rfl) o_i) fun x17 =>
 Sim.op1 (h_mv (o_t rfl)) <|
 Sim.next (x16, x17) ⟨⟨⟨rfl, trivial⟩, ⟨⟨rfl, trivial⟩, ⟨⟨rfl, trivial⟩, ⟨⟨rfl, trivial⟩, ⟨⟨rfl, trivial⟩, trivial⟩⟩⟩⟩⟩, ⟨⟨rfl, trivial⟩, trivial⟩⟩) (
 Sim.skip <| Sim.doneB <| Sim.doneS <| Sim.op (h_add (I := (IT.int .i64)) (o_t rfl) o_i) fun x18 =>
 Sim.op1 (h_mv (o_t rfl)) <|
 Sim.next (x11, x18) ⟨⟨⟨rfl, trivial⟩, ⟨⟨rfl, trivial⟩, ⟨⟨rfl, trivial⟩, ⟨⟨rfl, trivial⟩, ⟨⟨rfl, trivial⟩, trivial⟩⟩⟩⟩⟩, ⟨⟨rfl, trivial⟩, trivial⟩⟩)) (
 Sim.exitS <| Sim.out s8.1 ⟨⟨⟨rfl, trivial⟩, ⟨⟨rfl, trivial⟩, ⟨⟨rfl, trivial⟩, ⟨⟨rfl, trivial⟩, trivial⟩⟩⟩⟩, ⟨⟨rfl, trivial⟩, trivial⟩⟩)) (fun p9 =>
 Sim.exitB <| Sim.doneS <| Sim.seqI <| Sim.seqI <| Sim.op1 (h_mv (o_t rfl)) <|
 Sim.op (h_add (I := (IT.int .i64)) (o_t rfl) o_i) fun x19 =>
 Sim.op1 (h_mv o_i) <|
 Sim.doneS <| Sim.blkI <| Sim.loop (id := 4) (σ := (Int × Str)) (τ := Str) (fun s20 => ⟨[(0, .val (T.sl T.u8) a), (3, .own 3), (4, .val (T.int .i64) x7), (5, .val T.u32 p9), (31, .val (T.int .i64) x19), (32, .val (T.int .i64) s20.1)], [(3, .dom (DBld 65 5 false) s20.2)]⟩) (fun p21 => ⟨[(0, .val (T.sl T.u8) a), (3, .own 3), (4, .val (T.int .i64) x7)], [(3, .dom (DBld 65 5 false) p21)]⟩) (0, x1) ⟨⟨⟨rfl, trivial⟩, ⟨⟨rfl, trivial⟩, ⟨⟨rfl, trivial⟩, ⟨⟨rfl, trivial⟩, ⟨⟨rfl, trivial⟩, ⟨⟨rfl, trivial⟩, trivial⟩⟩⟩⟩⟩⟩, ⟨⟨rfl, trivial⟩, trivial⟩⟩ (fun _ => rfl) (fun s20 =>
 Sim.seqI <| Sim.op (h_cmp (I := (IT.int .i64)) rfl (o_t rfl) (o_t rfl)) fun x22 =>
 Sim.doneS <| Sim.seqI <| Sim.cond (o_t rfl) (
 Sim.skip <| Sim.doneS <| Sim.seqI <| Sim.blkI <| Sim.seqI <| Sim.op1 (h_mv (o_t rfl)) <|
 Sim.op1 (h_mv (o_t rfl)) <|
 Sim.doneS <| Sim.op1 (h_mv (o_t rfl)) <|
 Sim.op1 (h_mv (o_t rfl)) <|
 Sim.op (h_mul (I := (IT.int .i64)) o_i (o_t rfl)) fun x23 =>
 Sim.op (h_sub (I := (IT.int .i64)) o_i (o_t rfl)) fun x24 =>
 Sim.op (h_cvi (I := (IT.int .i64)) (J := IT.u64) rfl (o_t rfl)) fun x25 =>
 Sim.op (h_shrN (I := NT.u32) (J := IT.u64) (o_t rfl) (o_t rfl)) fun x26 =>
 Sim.op (h_and (I := IT.u32) (o_t rfl) (o_u32 63 rfl)) fun x27 =>
 Sim.op (h_ixs o_s (o_n32 (o_t rfl))) fun x28 =>
 Sim.opM (M_bldB f_p_strings_Builder_copyCheck rfl f_p_strings_Builder_WriteByte (o_t rfl) rfl (o_t rfl)) fun x29 =>
 Sim.doneB <| Sim.doneS <| Sim.op (h_add (I := (IT.int .i64)) (o_t rfl) o_i) fun x30 =>
 Sim.op1 (h_mv (o_t rfl)) <|
 Sim.next (x30, x29) ⟨⟨⟨rfl, trivial⟩, ⟨⟨rfl, trivial⟩, ⟨⟨rfl, trivial⟩, ⟨⟨rfl, trivial⟩, ⟨⟨rfl, trivial⟩, ⟨⟨rfl, trivial⟩, trivial⟩⟩⟩⟩⟩⟩, ⟨⟨rfl, trivial⟩, trivial⟩⟩) (
 Sim.exitS <| Sim.out s20.2 ⟨⟨⟨rfl, trivial⟩, ⟨⟨rfl, trivial⟩, ⟨⟨rfl, trivial⟩, trivial⟩⟩⟩, ⟨⟨rfl, trivial⟩, trivial⟩⟩)) (fun p21 =>
 Sim.exitB <| Sim.doneS <| Sim.seqI <| Sim.op1 (h_mv (o_t rfl)) <|
 Sim.op (h_sub (I := (IT.int .i64)) o_i (o_t rfl)) fun x31 =>
 Sim.stop))) (
 Sim.exitS <| Sim.out () ⟨⟨⟨rfl, trivial⟩, trivial⟩, ⟨⟨rfl, trivial⟩, trivial⟩⟩)) (fun p3 =>
 Sim.exitB <| Sim.doneS <| Sim.seqI <| Sim.opM (M_bldS f_p_strings_Builder_String (o_t rfl) rfl) fun x32 =>
 Sim.op1 (h_mv (o_t rfl)) <|
 Sim.doneS <| Sim.ret (.one (res_t rfl)))
theorem sp_sixtyfour_Encode : Spec tb fn_sixtyfour_Encode [(T.sl T.u8)] [T.str] (fun a => sixtyfour_Encode a) :=
  Spec.of f_sixtyfour_Encode rfl rfl rfl sim_sixtyfour_Encode

noncomputable def keys_Text (a0 : (Ar UInt8 32)) : Option Str :=
 (frzO a0.l 0 32 32).bind fun x1 =>
 (sixtyfour_Encode x1).bind fun x2 =>
 some x2
noncomputable def sim_keys_Text (a : Res [(T.arr 32 T.u8)]) : Sim tb ⟨argsT [(T.arr 32 T.u8)] 0 a, []⟩ c_keys_Text.body [] (QRes [T.str] c_keys_Text.res) :=
 Sim.seqI <| Sim.opM (M_box (t := (T.arr 32 T.u8)) 1 rfl rfl (o_t rfl)) fun _ =>
 Sim.op1 (h_mv o_s) <|
 Sim.doneS <| Sim.seqI <| Sim.op1 (h_slaL (k := 0) (m := 32) rfl rfl (o_t rfl) .none .none rfl rfl rfl) <|
 Sim.frzSl (o := 0) (k := 0) (m := 32) (t := (T.arr 32 T.u8)) (u := T.u8) 3 (Fld.id _) rfl rfl rfl rfl fun x1 =>
 Sim.op (h_call1 sp_sixtyfour_Encode (.one (o_t rfl))) fun x2 =>
 Sim.op1 (h_mv (o_t rfl)) <|
 Sim.doneS <| Sim.ret (.one (res_t rfl))
theorem sp_keys_Text : Spec tb fn_keys_Text [(T.arr 32 T.u8)] [T.str] (fun a => keys_Text a) :=
  Spec.of f_keys_Text rfl rfl rfl sim_keys_Text

noncomputable def quad_Text (a0 : (Ar UInt8 4)) : Option Str :=
 (iter (fun (s3 : (Int × (Ar Str 4))) =>
 if (decide (s3.1 < 4)) = true then
 (idx a0.l s3.1).bind fun x6 =>
 (decimal_Text (IT.u64.ofI (x6.toNat : Int))).bind fun x8 =>
 (idxN 4 s3.1).bind fun x9 =>
 (if x9 < 4 then some (s3.2.set x9 x8) else none).bind fun x10 =>
 some (.inl (IntKind.i64.wrap (s3.1 + 1), x10))
 else
 some (.inr (.inl s3.2))) (0, (T.arr 4 T.str).z)).bind (Sum.elim (fun (p4 : (Ar Str 4)) =>
 none) some)
noncomputable def sim_quad_Text (a : Res [(T.arr 4 T.u8)]) : Sim tb ⟨argsT [(T.arr 4 T.u8)] 0 a, []⟩ c_quad_Text.body [] (QRes [T.str] c_quad_Text.res) :=
 Sim.seqI <| Sim.opM (M_box (t := (T.arr 4 T.u8)) 1 rfl rfl (o_t rfl)) fun _ =>
 Sim.op1 (h_mv o_s) <|
 Sim.doneS <| Sim.seqI <| Sim.opM (M_alloc (t := (T.arr 4 T.str)) 3 rfl rfl) fun x1 =>
 Sim.doneS <| Sim.seqI <| Sim.seqI <| Sim.opn (h_ldC (t := (T.arr 4 T.u8)) (u := (T.arr 4 T.u8)) (o_t rfl) rfl rfl (Fld.id _) rfl rfl) fun x2 =>
 Sim.op1 (h_mv o_i) <|
 Sim.doneS <| Sim.blkI <| Sim.loop (id := 0) (σ := (Int × (Ar Str 4))) (τ := (Ar Str 4)) (fun s3 => ⟨[(3, .cp 3 0), (6, .val (T.arr 4 T.u8) x2), (7, .val (T.int .i64) s3.1)], [(3, .cells [(4, .val (T.arr 4 T.str) s3.2)])]⟩) (fun p4 => ⟨[(3, .cp 3 0)], [(3, .cells [(4, .val (T.arr 4 T.str) p4)])]⟩) (0, x1) ⟨⟨⟨rfl, trivial⟩, ⟨⟨rfl, trivial⟩, ⟨⟨rfl, trivial⟩, trivial⟩⟩⟩, ⟨⟨rfl, ⟨trivial, trivial⟩⟩, trivial⟩⟩ (fun _ => rfl) (fun s3 =>
 Sim.seqI <| Sim.op (h_cmp (I := (IT.int .i64)) rfl (o_t rfl) o_i) fun x5 =>
 Sim.doneS <| Sim.seqI <| Sim.cond (o_t rfl) (
 Sim.skip <| Sim.doneS <| Sim.seqI <| Sim.blkI <| Sim.seqI <| Sim.op1 (h_mv (o_t rfl)) <|
 Sim.op (h_ixa rfl rfl rfl (o_t rfl) (o_t rfl)) fun x6 =>
 Sim.op1 (h_mv (o_t rfl)) <|
 Sim.op1 (h_mv (o_t rfl)) <|
 Sim.doneS <| Sim.op1 (h_mv (o_t rfl)) <|
 Sim.op1 (h_mv (o_t rfl)) <|
 Sim.op (h_cvi (I := IT.u8) (J := IT.u64) rfl (o_t rfl)) fun x7 =>
 Sim.op (h_call1 sp_decimal_Text (.one (o_t rfl))) fun x8 =>
 Sim.op (h_iaaC (o_t rfl) (o_t rfl)) fun x9 =>
 Sim.opM (M_stA (s := (T.arr 4 T.str)) (Fld.id _) rfl (o_t rfl) (o_t rfl) rfl rfl) fun x10 =>
 Sim.doneB <| Sim.doneS <| Sim.op (h_add (I := (IT.int .i64)) (o_t rfl) o_i) fun x11 =>
 Sim.op1 (h_mv (o_t rfl)) <|
 Sim.next (x11, x10) ⟨⟨⟨rfl, trivial⟩, ⟨⟨rfl, trivial⟩, ⟨⟨rfl, trivial⟩, trivial⟩⟩⟩, ⟨⟨rfl, ⟨trivial, trivial⟩⟩, trivial⟩⟩) (
 Sim.exitS <| Sim.out s3.2 ⟨⟨⟨rfl, trivial⟩, trivial⟩, ⟨⟨rfl, ⟨trivial, trivial⟩⟩, trivial⟩⟩)) (fun p4 =>
 Sim.exitB <| Sim.doneS <| Sim.seqI <| Sim.op1 (h_slaL (k := 0) (m := 4) rfl rfl (o_t rfl) .none .none rfl rfl rfl) <|
 Sim.stop)
theorem sp_quad_Text : Spec tb fn_quad_Text [(T.arr 4 T.u8)] [T.str] (fun a => quad_Text a) :=
  Spec.of f_quad_Text rfl rfl rfl sim_quad_Text

noncomputable def colon_longest (a0 : (Ar UInt16 8)) : Option (Int × Int) :=
 (iter (fun (s2 : (Int × Int × Int × Int)) =>
 if (decide (s2.2.2.2 < 8)) = true then
 (idx a0.l s2.2.2.2).bind fun x5 =>
 let x6 := !decide ((x5.toNat : Int) = ((0 : UInt16).toNat : Int))
 if x6 = true then
 some (.inl (s2.1, s2.2.1, 0, IntKind.i64.wrap (s2.2.2.2 + 1)))
 else
 let x9 := decide (s2.2.1 < IntKind.i64.wrap (s2.2.2.1 + 1))
 if x9 = true then
 let x11 := IntKind.i64.wrap (IntKind.i64.wrap (s2.2.2.2 + 1) - IntKind.i64.wrap (s2.2.2.1 + 1))
 some (.inl (x11, IntKind.i64.wrap (s2.2.2.1 + 1), IntKind.i64.wrap (s2.2.2.1 + 1), IntKind.i64.wrap (s2.2.2.2 + 1)))
 else
 some (.inl (s2.1, s2.2.1, IntKind.i64.wrap (s2.2.2.1 + 1), IntKind.i64.wrap (s2.2.2.2 + 1)))
 else
 some (.inr (.inl (s2.1, s2.2.1)))) (0, 0, 0, 0)).bind (Sum.elim (fun (p3 : (Int × Int)) =>
 some (p3.1, p3.2)) some)
noncomputable def sim_colon_longest (a : Res [(T.arr 8 T.u16)]) : Sim tb ⟨argsT [(T.arr 8 T.u16)] 0 a, []⟩ c_colon_longest.body [] (QRes [(T.int .i64), (T.int .i64)] c_colon_longest.res) :=
 Sim.seqI <| Sim.opM (M_box (t := (T.arr 8 T.u16)) 1 rfl rfl (o_t rfl)) fun _ =>
 Sim.op1 (h_mv o_i) <|
 Sim.op1 (h_mv o_i) <|
 Sim.doneS <| Sim.seqI <| Sim.op1 (h_mv o_i) <|
 Sim.doneS <| Sim.seqI <| Sim.seqI <| Sim.opn (h_ldC (t := (T.arr 8 T.u16)) (u := (T.arr 8 T.u16)) (o_t rfl) rfl rfl (Fld.id _) rfl rfl) fun x1 =>
 Sim.op1 (h_mv o_i) <|
 Sim.doneS <| Sim.blkI <| Sim.loop (id := 0) (σ := (Int × Int × Int × Int)) (τ := (Int × Int)) (fun s2 => ⟨[(2, .val (T.int .i64) s2.1), (3, .val (T.int .i64) s2.2.1), (4, .val (T.int .i64) s2.2.2.1), (7, .val (T.arr 8 T.u16) x1), (8, .val (T.int .i64) s2.2.2.2)], []⟩) (fun p3 => ⟨[(2, .val (T.int .i64) p3.1), (3, .val (T.int .i64) p3.2)], []⟩) (0, 0, 0, 0) ⟨⟨⟨rfl, trivial⟩, ⟨⟨rfl, trivial⟩, ⟨⟨rfl, trivial⟩, ⟨⟨rfl, trivial⟩, ⟨⟨rfl, trivial⟩, trivial⟩⟩⟩⟩⟩, trivial⟩ (fun _ => rfl) (fun s2 =>
 Sim.seqI <| Sim.op (h_cmp (I := (IT.int .i64)) rfl (o_t rfl) o_i) fun x4 =>
 Sim.doneS <| Sim.seqI <| Sim.cond (o_t rfl) (
 Sim.skip <| Sim.doneS <| Sim.seqI <| Sim.blkI <| Sim.seqI <| Sim.op1 (h_mv (o_t rfl)) <|
 Sim.op (h_ixa rfl rfl rfl (o_t rfl) (o_t rfl)) fun x5 =>
 Sim.op1 (h_mv (o_t rfl)) <|
 Sim.op1 (h_mv (o_t rfl)) <|
 Sim.doneS <| Sim.seqI <| Sim.seqI <| Sim.op1 (h_mv (o_t rfl)) <|
 Sim.op (h_cmp (I := IT.u16) rfl (o_t rfl) (o_u16 0 rfl)) fun x6 =>
 Sim.doneS <| Sim.cond (o_t rfl) (
 Sim.seqI <| Sim.op1 (h_mv o_i) <|
 Sim.doneS <| Sim.exitS <| Sim.exitB <| Sim.doneS <| Sim.op (h_add (I := (IT.int .i64)) (o_t rfl) o_i) fun x7 =>
 Sim.op1 (h_mv (o_t rfl)) <|
 Sim.next (s2.1, s2.2.1, 0, x7) ⟨⟨⟨rfl, trivial⟩, ⟨⟨rfl, trivial⟩, ⟨⟨rfl, trivial⟩, ⟨⟨rfl, trivial⟩, ⟨⟨rfl, trivial⟩, trivial⟩⟩⟩⟩⟩, trivial⟩) (
 Sim.skip <| Sim.doneS <| Sim.seqI <| Sim.op1 (h_mv (o_t rfl)) <|
 Sim.op (h_add (I := (IT.int .i64)) (o_t rfl) o_i) fun x8 =>
 Sim.op1 (h_mv (o_t rfl)) <|
 Sim.doneS <| Sim.seqI <| Sim.op1 (h_mv (o_t rfl)) <|
 Sim.op1 (h_mv (o_t rfl)) <|
 Sim.op (h_cmp (I := (IT.int .i64)) rfl (o_t rfl) (o_t rfl)) fun x9 =>
 Sim.doneS <| Sim.cond (o_t rfl) (
 Sim.op1 (h_mv (o_t rfl)) <|
 Sim.op (h_add (I := (IT.int .i64)) (o_t rfl) o_i) fun x10 =>
 Sim.op1 (h_mv (o_t rfl)) <|
 Sim.op (h_sub (I := (IT.int .i64)) (o_t rfl) (o_t rfl)) fun x11 =>
 Sim.op1 (h_mv (o_t rfl)) <|
 Sim.op1 (h_mv (o_t rfl)) <|
 Sim.op1 (h_mv (o_t rfl)) <|
 Sim.doneB <| Sim.doneS <| Sim.op (h_add (I := (IT.int .i64)) (o_t rfl) o_i) fun x12 =>
 Sim.op1 (h_mv (o_t rfl)) <|
 Sim.next (x11, x8, x8, x12) ⟨⟨⟨rfl, trivial⟩, ⟨⟨rfl, trivial⟩, ⟨⟨rfl, trivial⟩, ⟨⟨rfl, trivial⟩, ⟨⟨rfl, trivial⟩, trivial⟩⟩⟩⟩⟩, trivial⟩) (
 Sim.skip <| Sim.doneB <| Sim.doneS <| Sim.op (h_add (I := (IT.int .i64)) (o_t rfl) o_i) fun x13 =>
 Sim.op1 (h_mv (o_t rfl)) <|
 Sim.next (s2.1, s2.2.1, x8, x13) ⟨⟨⟨rfl, trivial⟩, ⟨⟨rfl, trivial⟩, ⟨⟨rfl, trivial⟩, ⟨⟨rfl, trivial⟩, ⟨⟨rfl, trivial⟩, trivial⟩⟩⟩⟩⟩, trivial⟩))) (
 Sim.exitS <| Sim.out (s2.1, s2.2.1) ⟨⟨⟨rfl, trivial⟩, ⟨⟨rfl, trivial⟩, trivial⟩⟩, trivial⟩)) (fun p3 =>
 Sim.exitB <| Sim.doneS <| Sim.seqI <| Sim.op1 (h_mv (o_t rfl)) <|
 Sim.op1 (h_mv (o_t rfl)) <|
 Sim.op1 (h_mv (o_t rfl)) <|
 Sim.op1 (h_mv (o_t rfl)) <|
 Sim.doneS <| Sim.ret (.cons (res_t rfl) <| .one (res_t rfl)))
theorem sp_colon_longest : Spec tb fn_colon_longest [(T.arr 8 T.u16)] [(T.int .i64), (T.int .i64)] (fun a => colon_longest a) :=
  Spec.of f_colon_longest rfl rfl rfl sim_colon_longest

noncomputable def colon_row (a0 : (GS UInt16)) : Option Str :=
 (iter (fun (s2 : Unit) =>
 if (decide (0 < (a0.l.length : Int))) = true then
 (idx a0.l 0).bind fun x5 =>
 none
 else
 some (.inr (.inl ()))) ()).bind (Sum.elim (fun (p3 : Unit) =>
 none) some)
noncomputable def sim_colon_row (a : Res [(T.sl T.u16)]) : Sim tb ⟨argsT [(T.sl T.u16)] 0 a, []⟩ c_colon_row.body [] (QRes [T.str] c_colon_row.res) :=
 Sim.seqI <| Sim.op1 (h_mv o_s) <|
 Sim.doneS <| Sim.seqI <| Sim.op1 (h_mv (o_nils (t := T.str))) <| Sim.turn (born (n := 3) (j := 1003) rfl rfl) <|
 Sim.doneS <| Sim.seqI <| Sim.seqI <| Sim.op1 (h_mv (o_t rfl)) <|
 Sim.op (h_len (o_t rfl)) fun x1 =>
 Sim.op1 (h_mv o_i) <|
 Sim.doneS <| Sim.blkI <| Sim.loop (id := 0) (σ := Unit) (τ := Unit) (fun s2 => ⟨[(3, .own 1003), (6, .val (T.sl T.u16) a), (7, .val (T.int .i64) x1), (8, .val (T.int .i64) (0 : Int))], [(1003, .row T.str .nil)]⟩) (fun p3 => ⟨[(3, .own 1003)], [(1003, .row T.str .nil)]⟩) () ⟨⟨⟨rfl, trivial⟩, ⟨⟨rfl, trivial⟩, ⟨⟨rfl, trivial⟩, ⟨⟨rfl, trivial⟩, trivial⟩⟩⟩⟩, ⟨⟨rfl, trivial⟩, trivial⟩⟩ (fun _ => rfl) (fun s2 =>
 Sim.seqI <| Sim.op (h_cmp (I := (IT.int .i64)) rfl (o_t rfl) (o_t rfl)) fun x4 =>
 Sim.doneS <| Sim.seqI <| Sim.cond (o_t rfl) (
 Sim.skip <| Sim.doneS <| Sim.seqI <| Sim.blkI <| Sim.seqI <| Sim.op (h_ias rfl (o_t rfl) (o_t rfl)) fun x5 =>
 Sim.opn (h_ld rfl rfl (o_t rfl)) fun x6 =>
 Sim.op1 (h_mv (o_t rfl)) <|
 Sim.doneS <| Sim.op1 (h_mv (o_t rfl)) <|
 Sim.op1 (h_mv (o_t rfl)) <|
 Sim.stop) (
 Sim.exitS <| Sim.out () ⟨⟨⟨rfl, trivial⟩, trivial⟩, ⟨⟨rfl, trivial⟩, trivial⟩⟩)) (fun p3 =>
 Sim.exitB <| Sim.doneS <| Sim.seqI <| Sim.op1 (h_mv (o_t rfl)) <|
 Sim.stop)
theorem sp_colon_row : Spec tb fn_colon_row [(T.sl T.u16)] [T.str] (fun a => colon_row a) :=
  Spec.of f_colon_row rfl rfl rfl sim_colon_row

noncomputable def colon_Text (a0 : (Ar UInt8 16)) : Option Str :=
 none
noncomputable def sim_colon_Text (a : Res [(T.arr 16 T.u8)]) : Sim tb ⟨argsT [(T.arr 16 T.u8)] 0 a, []⟩ c_colon_Text.body [] (QRes [T.str] c_colon_Text.res) :=
 Sim.seqI <| Sim.opM (M_box (t := (T.arr 16 T.u8)) 1 rfl rfl (o_t rfl)) fun _ =>
 Sim.op1 (h_mv o_s) <|
 Sim.doneS <| Sim.seqI <| Sim.opn (h_ldC (t := (T.arr 16 T.u8)) (u := (T.arr 16 T.u8)) (o_t rfl) rfl rfl (Fld.id _) rfl rfl) fun x1 =>
 Sim.stop
theorem sp_colon_Text : Spec tb fn_colon_Text [(T.arr 16 T.u8)] [T.str] (fun a => colon_Text a) :=
  Spec.of f_colon_Text rfl rfl rfl sim_colon_Text

noncomputable def addr_Text (a0 : S_api_Addr) : Option Str :=
 (addr_Right a0).bind fun x2 =>
 if (!x2) = true then
 some []
 else
 if (decide (a0.V = 4)) = true then
 let x6 := (⟨(a0.B.l.drop 0).take 4, by rw [List.length_take, List.length_drop, Ar.len]; rfl⟩ : (Ar UInt8 4))
 (quad_Text x6).bind fun x7 =>
 some x7
 else
 (colon_Text a0.B).bind fun x9 =>
 some x9
noncomputable def sim_addr_Text (a : Res [T_api_Addr]) : Sim tb ⟨argsT [T_api_Addr] 0 a, []⟩ c_addr_Text.body [] (QRes [T.str] c_addr_Text.res) :=
 Sim.seqI <| Sim.opM (M_box (t := T_api_Addr) 1 rfl rfl (o_t rfl)) fun _ =>
 Sim.op1 (h_mv o_s) <|
 Sim.doneS <| Sim.seqI <| Sim.blkI <| Sim.seqI <| Sim.opn (h_ldC (t := T_api_Addr) (u := T_api_Addr) (o_t rfl) rfl rfl (Fld.id _) rfl rfl) fun x1 =>
 Sim.op (h_call1 sp_addr_Right (.one (o_t rfl))) fun x2 =>
 Sim.op (h_not (o_t rfl)) fun x3 =>
 Sim.op1 (h_mv (o_t rfl)) <|
 Sim.doneS <| Sim.cond (o_t rfl) (
 Sim.seqI <| Sim.op1 (h_mv o_s) <|
 Sim.doneS <| Sim.ret (.one (res_t rfl))) (
 Sim.seqI <| Sim.op1 (h_faC (o_t rfl)) <|
 Sim.opn (h_ldC (t := T_api_Addr) (u := (T.int .i64)) (o_t rfl) rfl rfl F_api_Addr_V rfl rfl) fun x4 =>
 Sim.op (h_cmp (I := (IT.int .i64)) rfl (o_t rfl) o_i) fun x5 =>
 Sim.op1 (h_mv (o_t rfl)) <|
 Sim.doneS <| Sim.cond (o_t rfl) (
 Sim.seqI <| Sim.op1 (h_faC (o_t rfl)) <|
 Sim.op1 (h_slaL (k := 0) (m := 4) rfl rfl (o_t rfl) .none (.some o_i) rfl rfl rfl) <|
 Sim.op1 (h_s2aC (o_t rfl) rfl) <|
 Sim.opn (h_ldC (t := T_api_Addr) (u := (T.arr 4 T.u8)) (o_t rfl) rfl rfl (Fld.comp F_api_Addr_B (Fld.piece 16 T.u8 0 4 (by decide))) rfl rfl) fun x6 =>
 Sim.op (h_call1 sp_quad_Text (.one (o_t rfl))) fun x7 =>
 Sim.op1 (h_mv (o_t rfl)) <|
 Sim.doneS <| Sim.ret (.one (res_t rfl))) (
 Sim.skip <| Sim.doneB <| Sim.doneS <| Sim.seqI <| Sim.op1 (h_faC (o_t rfl)) <|
 Sim.opn (h_ldC (t := T_api_Addr) (u := (T.arr 16 T.u8)) (o_t rfl) rfl rfl F_api_Addr_B rfl rfl) fun x8 =>
 Sim.op (h_call1 sp_colon_Text (.one (o_t rfl))) fun x9 =>
 Sim.op1 (h_mv (o_t rfl)) <|
 Sim.doneS <| Sim.ret (.one (res_t rfl))))
theorem sp_addr_Text : Spec tb fn_addr_Text [T_api_Addr] [T.str] (fun a => addr_Text a) :=
  Spec.of f_addr_Text rfl rfl rfl sim_addr_Text

noncomputable def hostport_Text (a0 : S_api_Endpoint) : Option Str :=
 (hostport_Right a0).bind fun x2 =>
 if (!x2) = true then
 some []
 else
 (decimal_Text (IT.u64.ofI a0.Port)).bind fun x6 =>
 (addr_Width a0.A).bind fun x8 =>
 if (decide (32 < x8)) = true then
 (addr_Text a0.A).bind fun x11 =>
 (if [91].length + x11.length ≤ 2 * most then some ([91] ++ x11) else none).bind fun x12 =>
 (if x12.length + [93, 58].length ≤ 2 * most then some (x12 ++ [93, 58]) else none).bind fun x13 =>
 (if x13.length + x6.length ≤ 2 * most then some (x13 ++ x6) else none).bind fun x14 =>
 some x14
 else
 (addr_Text a0.A).bind fun x16 =>
 (if x16.length + [58].length ≤ 2 * most then some (x16 ++ [58]) else none).bind fun x17 =>
 (if x17.length + x6.length ≤ 2 * most then some (x17 ++ x6) else none).bind fun x18 =>
 some x18
noncomputable def sim_hostport_Text (a : Res [T_api_Endpoint]) : Sim tb ⟨argsT [T_api_Endpoint] 0 a, []⟩ c_hostport_Text.body [] (QRes [T.str] c_hostport_Text.res) :=
 Sim.seqI <| Sim.opM (M_box (t := T_api_Endpoint) 1 rfl rfl (o_t rfl)) fun _ =>
 Sim.op1 (h_mv o_s) <|
 Sim.doneS <| Sim.seqI <| Sim.seqI <| Sim.opn (h_ldC (t := T_api_Endpoint) (u := T_api_Endpoint) (o_t rfl) rfl rfl (Fld.id _) rfl rfl) fun x1 =>
 Sim.op (h_call1 sp_hostport_Right (.one (o_t rfl))) fun x2 =>
 Sim.op (h_not (o_t rfl)) fun x3 =>
 Sim.doneS <| Sim.cond (o_t rfl) (
 Sim.seqI <| Sim.op1 (h_mv o_s) <|
 Sim.doneS <| Sim.ret (.one (res_t rfl))) (
 Sim.skip <| Sim.doneS <| Sim.seqI <| Sim.op1 (h_faC (o_t rfl)) <|
 Sim.opn (h_ldC (t := T_api_Endpoint) (u := (T.int .i64)) (o_t rfl) rfl rfl F_api_Endpoint_Port rfl rfl) fun x4 =>
 Sim.op (h_cvi (I := (IT.int .i64)) (J := IT.u64) rfl (o_t rfl)) fun x5 =>
 Sim.op (h_call1 sp_decimal_Text (.one (o_t rfl))) fun x6 =>
 Sim.op1 (h_mv (o_t rfl)) <|
 Sim.doneS <| Sim.seqI <| Sim.seqI <| Sim.op1 (h_faC (o_t rfl)) <|
 Sim.opn (h_ldC (t := T_api_Endpoint) (u := T_api_Addr) (o_t rfl) rfl rfl F_api_Endpoint_A rfl rfl) fun x7 =>
 Sim.op (h_call1 sp_addr_Width (.one (o_t rfl))) fun x8 =>
 Sim.op (h_cmp (I := (IT.int .i64)) rfl (o_t rfl) o_i) fun x9 =>
 Sim.doneS <| Sim.cond (o_t rfl) (
 Sim.seqI <| Sim.op1 (h_faC (o_t rfl)) <|
 Sim.opn (h_ldC (t := T_api_Endpoint) (u := T_api_Addr) (o_t rfl) rfl rfl F_api_Endpoint_A rfl rfl) fun x10 =>
 Sim.op (h_call1 sp_addr_Text (.one (o_t rfl))) fun x11 =>
 Sim.op (h_sadd o_s (o_t rfl)) fun x12 =>
 Sim.op (h_sadd (o_t rfl) o_s) fun x13 =>
 Sim.op1 (h_mv (o_t rfl)) <|
 Sim.op (h_sadd (o_t rfl) (o_t rfl)) fun x14 =>
 Sim.op1 (h_mv (o_t rfl)) <|
 Sim.doneS <| Sim.ret (.one (res_t rfl))) (
 Sim.skip <| Sim.doneS <| Sim.seqI <| Sim.op1 (h_faC (o_t rfl)) <|
 Sim.opn (h_ldC (t := T_api_Endpoint) (u := T_api_Addr) (o_t rfl) rfl rfl F_api_Endpoint_A rfl rfl) fun x15 =>
 Sim.op (h_call1 sp_addr_Text (.one (o_t rfl))) fun x16 =>
 Sim.op (h_sadd (o_t rfl) o_s) fun x17 =>
 Sim.op1 (h_mv (o_t rfl)) <|
 Sim.op (h_sadd (o_t rfl) (o_t rfl)) fun x18 =>
 Sim.op1 (h_mv (o_t rfl)) <|
 Sim.doneS <| Sim.ret (.one (res_t rfl))))
theorem sp_hostport_Text : Spec tb fn_hostport_Text [T_api_Endpoint] [T.str] (fun a => hostport_Text a) :=
  Spec.of f_hostport_Text rfl rfl rfl sim_hostport_Text

noncomputable def cidr_Text (a0 : S_api_Prefix) : Option Str :=
 (cidr_Right a0).bind fun x2 =>
 if (!x2) = true then
 some []
 else
 (addr_Text a0.A).bind fun x5 =>
 (if x5.length + [47].length ≤ 2 * most then some (x5 ++ [47]) else none).bind fun x6 =>
 (decimal_Text (IT.u64.ofI a0.Bits)).bind fun x9 =>
 (if x6.length + x9.length ≤ 2 * most then some (x6 ++ x9) else none).bind fun x10 =>
 some x10
noncomputable def sim_cidr_Text (a : Res [T_api_Prefix]) : Sim tb ⟨argsT [T_api_Prefix] 0 a, []⟩ c_cidr_Text.body [] (QRes [T.str] c_cidr_Text.res) :=
 Sim.seqI <| Sim.opM (M_box (t := T_api_Prefix) 1 rfl rfl (o_t rfl)) fun _ =>
 Sim.op1 (h_mv o_s) <|
 Sim.doneS <| Sim.seqI <| Sim.seqI <| Sim.opn (h_ldC (t := T_api_Prefix) (u := T_api_Prefix) (o_t rfl) rfl rfl (Fld.id _) rfl rfl) fun x1 =>
 Sim.op (h_call1 sp_cidr_Right (.one (o_t rfl))) fun x2 =>
 Sim.op (h_not (o_t rfl)) fun x3 =>
 Sim.doneS <| Sim.cond (o_t rfl) (
 Sim.seqI <| Sim.op1 (h_mv o_s) <|
 Sim.doneS <| Sim.ret (.one (res_t rfl))) (
 Sim.skip <| Sim.doneS <| Sim.seqI <| Sim.op1 (h_faC (o_t rfl)) <|
 Sim.opn (h_ldC (t := T_api_Prefix) (u := T_api_Addr) (o_t rfl) rfl rfl F_api_Prefix_A rfl rfl) fun x4 =>
 Sim.op (h_call1 sp_addr_Text (.one (o_t rfl))) fun x5 =>
 Sim.op (h_sadd (o_t rfl) o_s) fun x6 =>
 Sim.op1 (h_faC (o_t rfl)) <|
 Sim.opn (h_ldC (t := T_api_Prefix) (u := (T.int .i64)) (o_t rfl) rfl rfl F_api_Prefix_Bits rfl rfl) fun x7 =>
 Sim.op (h_cvi (I := (IT.int .i64)) (J := IT.u64) rfl (o_t rfl)) fun x8 =>
 Sim.op (h_call1 sp_decimal_Text (.one (o_t rfl))) fun x9 =>
 Sim.op (h_sadd (o_t rfl) (o_t rfl)) fun x10 =>
 Sim.op1 (h_mv (o_t rfl)) <|
 Sim.doneS <| Sim.ret (.one (res_t rfl)))
theorem sp_cidr_Text : Spec tb fn_cidr_Text [T_api_Prefix] [T.str] (fun a => cidr_Text a) :=
  Spec.of f_cidr_Text rfl rfl rfl sim_cidr_Text

noncomputable def iniwrite_file (a0 : S_api_Ini) : Option (GS Str) :=
 (keys_Zero a0.Private).bind fun x4 =>
 (some ()).bind (fun (p7 : Unit) =>
 (if (!x4) = true then
 (if [80, 114, 105, 118, 97, 116, 101, 75, 101, 121].length + [32, 61, 32].length ≤ 2 * most then some ([80, 114, 105, 118, 97, 116, 101, 75, 101, 121] ++ [32, 61, 32]) else none).bind fun x9 =>
 ((keys_Text a0.Private).bind fun x12 =>
 some x12).bind (fun (p10 : Str) =>
 (if x9.length + p10.length ≤ 2 * most then some (x9 ++ p10) else none).bind fun x13 =>
 (apG 16 (GS.mk [[91, 73, 110, 116, 101, 114, 102, 97, 99, 101, 93]]) [x13]).bind fun x15 =>
 some x15)
 else
 some (GS.mk [[91, 73, 110, 116, 101, 114, 102, 97, 99, 101, 93]])).bind (fun (p8 : (GS Str)) =>
 (some ()).bind (fun (p18 : Unit) =>
 (if (!decide (a0.Port = 0)) = true then
 (if [76, 105, 115, 116, 101, 110, 80, 111, 114, 116].length + [32, 61, 32].length ≤ 2 * most then some ([76, 105, 115, 116, 101, 110, 80, 111, 114, 116] ++ [32, 61, 32]) else none).bind fun x20 =>
 ((decimal_Text (IT.u64.ofI a0.Port)).bind fun x24 =>
 some x24).bind (fun (p21 : Str) =>
 (if x20.length + p21.length ≤ 2 * most then some (x20 ++ p21) else none).bind fun x25 =>
 (apG 16 p8 [x25]).bind fun x27 =>
 some x27)
 else
 some p8).bind (fun (p19 : (GS Str)) =>
 let x28 := !decide ((a0.Mark.toNat : Int) = ((0 : UInt32).toNat : Int))
 (some ()).bind (fun (p31 : Unit) =>
 (if x28 = true then
 (if [70, 119, 77, 97, 114, 107].length + [32, 61, 32].length ≤ 2 * most then some ([70, 119, 77, 97, 114, 107] ++ [32, 61, 32]) else none).bind fun x33 =>
 (let x36 := IT.u64.ofI (IntKind.i64.wrap (a0.Mark.toNat : Int))
 (decimal_Text x36).bind fun x37 =>
 some x37).bind (fun (p34 : Str) =>
 (if x33.length + p34.length ≤ 2 * most then some (x33 ++ p34) else none).bind fun x38 =>
 (apG 16 p19 [x38]).bind fun x40 =>
 some x40)
 else
 some p19).bind (fun (p32 : (GS Str)) =>
 (iter (fun (s43 : (Int × (GS Str))) =>
 if (decide (s43.1 < (a0.Peers.l.length : Int))) = true then
 (idx a0.Peers.l s43.1).bind fun x46 =>
 (apG 16 s43.2 [[91, 80, 101, 101, 114, 93]]).bind fun x51 =>
 (some () : Option Unit).bind (fun (p53 : Unit) =>
 ((if [80, 117, 98, 108, 105, 99, 75, 101, 121].length + [32, 61, 32].length ≤ 2 * most then some ([80, 117, 98, 108, 105, 99, 75, 101, 121] ++ [32, 61, 32]) else none).bind fun x55 =>
 ((keys_Text x46.Key).bind fun x58 =>
 some x58).bind (fun (p56 : Str) =>
 (if x55.length + p56.length ≤ 2 * most then some (x55 ++ p56) else none).bind fun x59 =>
 (apG 16 x51 [x59]).bind fun x61 =>
 some x61) : Option (GS Str)).bind (fun (p54 : (GS Str)) =>
 (keys_Zero x46.Psk).bind fun x63 =>
 (some ()).bind (fun (p66 : Unit) =>
 (if (!x63) = true then
 (if [80, 114, 101, 115, 104, 97, 114, 101, 100, 75, 101, 121].length + [32, 61, 32].length ≤ 2 * most then some ([80, 114, 101, 115, 104, 97, 114, 101, 100, 75, 101, 121] ++ [32, 61, 32]) else none).bind fun x68 =>
 ((keys_Text x46.Psk).bind fun x71 =>
 some x71).bind (fun (p69 : Str) =>
 (if x68.length + p69.length ≤ 2 * most then some (x68 ++ p69) else none).bind fun x72 =>
 (apG 16 p54 [x72]).bind fun x74 =>
 some x74)
 else
 some p54).bind (fun (p67 : (GS Str)) =>
 (hostport_None x46.End).bind fun x76 =>
 (if (!x76) = true then
 (if [69, 110, 100, 112, 111, 105, 110, 116].length + [32, 61, 32].length ≤ 2 * most then some ([69, 110, 100, 112, 111, 105, 110, 116] ++ [32, 61, 32]) else none).bind fun x79 =>
 ((hostport_Text x46.End).bind fun x82 =>
 some x82).bind (fun (p80 : Str) =>
 (if x79.length + p80.length ≤ 2 * most then some (x79 ++ p80) else none).bind fun x83 =>
 (apG 16 p67 [x83]).bind fun x85 =>
 some x85)
 else
 some p67 : Option (GS Str)).bind (fun (p78 : (GS Str)) =>
 (some ()).bind (fun (p88 : Unit) =>
 (if (!decide (x46.Keep = 0)) = true then
 (if [80, 101, 114, 115, 105, 115, 116, 101, 110, 116, 75, 101, 101, 112, 97, 108, 105, 118, 101].length + [32, 61, 32].length ≤ 2 * most then some ([80, 101, 114, 115, 105, 115, 116, 101, 110, 116, 75, 101, 101, 112, 97, 108, 105, 118, 101] ++ [32, 61, 32]) else none).bind fun x90 =>
 ((decimal_Text (IT.u64.ofI x46.Keep)).bind fun x94 =>
 some x94).bind (fun (p91 : Str) =>
 (if x90.length + p91.length ≤ 2 * most then some (x90 ++ p91) else none).bind fun x95 =>
 (apG 16 p78 [x95]).bind fun x97 =>
 some x97)
 else
 some p78).bind (fun (p89 : (GS Str)) =>
 (iter (fun (s100 : (Int × (GS Str))) =>
 if (decide (s100.1 < (x46.Allowed.l.length : Int))) = true then
 (idx x46.Allowed.l s100.1).bind fun x103 =>
 ((if [65, 108, 108, 111, 119, 101, 100, 73, 80, 115].length + [32, 61, 32].length ≤ 2 * most then some ([65, 108, 108, 111, 119, 101, 100, 73, 80, 115] ++ [32, 61, 32]) else none).bind fun x108 =>
 ((cidr_Text x103).bind fun x111 =>
 some x111).bind (fun (p109 : Str) =>
 (if x108.length + p109.length ≤ 2 * most then some (x108 ++ p109) else none).bind fun x112 =>
 (apG 16 s100.2 [x112]).bind fun x114 =>
 some x114) : Option (GS Str)).bind (fun (p107 : (GS Str)) =>
 some (.inl (IntKind.i64.wrap (s100.1 + 1), p107)))
 else
 some (.inr (.inl s100.2))) (0, p89)).bind (Sum.elim (fun (p101 : (GS Str)) =>
 some (.inl (IntKind.i64.wrap (s43.1 + 1), p101))) some))))))))
 else
 some (.inr (.inl s43.2))) (0, p32)).bind (Sum.elim (fun (p44 : (GS Str)) =>
 some p44) some)))))))
noncomputable def sim_iniwrite_file (a : Res [T_api_Ini]) : Sim tb ⟨argsT [T_api_Ini] 0 a, []⟩ c_iniwrite_file.body [] (QRes [(T.sl T.str)] c_iniwrite_file.res) :=
 Sim.seqI <| Sim.opM (M_box (t := T_api_Ini) 1 rfl rfl (o_t rfl)) fun _ =>
 Sim.op1 (h_mv (o_nils (t := T.str))) <|
 Sim.doneS <| Sim.seqI <| Sim.opM (M_bls (t := T.str) (n := 1) 1011 rfl rfl (.cons rfl o_s <| .nil _) rfl) fun x1 =>
 Sim.opM (M_alloc (t := (T.sl T.str)) 3 rfl rfl) fun x2 =>
 Sim.opM (M_stR rfl rfl (o_t rfl) (o_t rfl) rfl rfl) fun _ =>
 Sim.doneS <| Sim.seqI <| Sim.opN (M_mkf (φs := []) (ψs := [.cp 3 0]) 3000000 (.nil) (.cons (o_t rfl) <| .nil) rfl ⟨rfl, trivial⟩ (js := []) (ks := [3000000]) rfl rfl) <|
 Sim.op1 (h_mv (o_t rfl)) <|
 Sim.doneS <| Sim.seqI <| Sim.op1 (h_mv o_fn) <|
 Sim.doneS <| Sim.seqI <| Sim.op1 (h_mv o_fn) <|
 Sim.doneS <| Sim.seqI <| Sim.regd 2 <| SimD.op1 rfl (h_mv (o_t rfl)) <|
 SimD.op1 rfl (h_faC (o_t rfl)) <|
 SimD.opn rfl (h_ldC (t := T_api_Ini) (u := (T.arr 32 T.u8)) (o_t rfl) rfl rfl F_api_Ini_Private rfl rfl) fun x3 =>
 SimD.op rfl (h_call1 sp_keys_Zero (.one (o_t rfl))) fun x4 =>
 SimD.op rfl (h_not (o_t rfl)) fun x5 =>
 SimD.op1 rfl (h_mv (o_t rfl)) <|
 SimD.op1 rfl (h_faC (o_t rfl)) <|
 SimD.opn rfl (h_ldC (t := T_api_Ini) (u := (T.arr 32 T.u8)) (o_t rfl) rfl rfl F_api_Ini_Private rfl rfl) fun x6 =>
 SimD.inl (τ := Unit) (φs := [.val (T.arr 32 T.u8) x6]) (n := 1) (L := [(1, .cp 1 0), (3, .cp 3 0), (4, .fnv (.func fn_iniwrite_file_1) [] [3000000]), (5, .fnv (.func fn_iniwrite_file_2) [] []), (6, .fnv (.func fn_iniwrite_file_3) [] []), (13, .fnv (.func fn_iniwrite_file_1) [] [3000000]), (17, .val T.b x5)]) (Γr := (fun p7 => ⟨[(0, .fnv (.func fn_iniwrite_file_3_1) [] [3000001])], [(1, .cells [(35, .val T_api_Ini a)]), (3, .cells [(1, .own 1011)]), (1001, .cells [(32, .val (T.arr 32 T.u8) x6)]), (1011, .row T.str (.mk x1)), (2000001, .ghost (.cp 1 0)), (2000003, .ghost (.cp 3 0)), (2000004, .ghost (.fnv (.func fn_iniwrite_file_1) [] [3000000])), (2000005, .ghost (.fnv (.func fn_iniwrite_file_2) [] [])), (2000006, .ghost (.fnv (.func fn_iniwrite_file_3) [] [])), (2000013, .ghost (.fnv (.func fn_iniwrite_file_1) [] [3000000])), (2000017, .ghost (.val T.b x5)), (3000000, .keep (.cp 3 0)), (3000001, .keep (.cp 1001 0))]⟩)) rfl 2000000 (fun p7 => ⟨[(21, .fnv (.func fn_iniwrite_file_3_1) [] [3000001]), (1, .cp 1 0), (3, .cp 3 0), (4, .fnv (.func fn_iniwrite_file_1) [] [3000000]), (5, .fnv (.func fn_iniwrite_file_2) [] []), (6, .fnv (.func fn_iniwrite_file_3) [] []), (13, .fnv (.func fn_iniwrite_file_1) [] [3000000]), (17, .val T.b x5)], [(1, .cells [(35, .val T_api_Ini a)]), (3, .cells [(1, .own 1011)]), (1001, .cells [(32, .val (T.arr 32 T.u8) x6)]), (1011, .row T.str (.mk x1)), (3000000, .keep (.cp 3 0)), (3000001, .keep (.cp 1001 0))]⟩) (fun _ => .nil) f_iniwrite_file_3 rfl rfl rfl (c_callv (o_t rfl) rfl) (.cons (s_o (o_t rfl)) <| .nil) ⟨⟨rfl, rfl⟩, ⟨⟨rfl, rfl⟩, ⟨⟨rfl, rfl⟩, ⟨⟨rfl, rfl⟩, ⟨⟨rfl, rfl⟩, ⟨⟨rfl, rfl⟩, ⟨⟨rfl, rfl⟩, trivial⟩⟩⟩⟩⟩⟩⟩ rfl (
 Sim.seqI <| Sim.opM (M_box (t := (T.arr 32 T.u8)) 1001 rfl rfl (o_t rfl)) fun _ =>
 Sim.op1 (h_mv (o_con rfl rfl)) <|
 Sim.doneS <| Sim.seqI <| Sim.opN (M_mkf (φs := []) (ψs := [.cp 1001 0]) 3000001 (.nil) (.cons (o_t rfl) <| .nil) rfl ⟨rfl, trivial⟩ (js := []) (ks := [3000001]) rfl rfl) <|
 Sim.op1 (h_mv (o_t rfl)) <|
 Sim.doneS <| Sim.retIn () (.cons (rg_t rfl) <| .nil) ⟨⟨⟨rfl, ⟨trivial, trivial⟩⟩, trivial⟩, ⟨⟨rfl, ⟨trivial, trivial⟩⟩, ⟨⟨rfl, ⟨trivial, trivial⟩⟩, ⟨⟨rfl, ⟨trivial, trivial⟩⟩, ⟨⟨rfl, trivial⟩, ⟨⟨rfl, trivial⟩, ⟨⟨rfl, trivial⟩, ⟨⟨rfl, ⟨trivial, trivial⟩⟩, ⟨⟨rfl, trivial⟩, ⟨⟨rfl, trivial⟩, ⟨⟨rfl, ⟨trivial, trivial⟩⟩, ⟨⟨rfl, trivial⟩, ⟨⟨rfl, trivial⟩, ⟨⟨rfl, trivial⟩, trivial⟩⟩⟩⟩⟩⟩⟩⟩⟩⟩⟩⟩⟩⟩) (fun p7 => BackOk.some' ⟨⟨rfl, ⟨trivial, trivial⟩⟩, ⟨⟨rfl, ⟨trivial, trivial⟩⟩, ⟨⟨rfl, ⟨trivial, trivial⟩⟩, ⟨⟨rfl, trivial⟩, ⟨⟨rfl, trivial⟩, ⟨⟨rfl, trivial⟩, trivial⟩⟩⟩⟩⟩⟩ rfl (.one rfl) ⟨trivial, trivial⟩ ⟨⟨rfl, trivial⟩, ⟨⟨rfl, trivial⟩, ⟨⟨rfl, ⟨trivial, trivial⟩⟩, ⟨⟨rfl, trivial⟩, ⟨⟨rfl, trivial⟩, ⟨⟨rfl, ⟨trivial, trivial⟩⟩, ⟨⟨rfl, trivial⟩, trivial⟩⟩⟩⟩⟩⟩⟩) fun p7 =>
 SimD.inl (τ := (GS Str)) (φs := [.val T.b x5, .val T.str [80, 114, 105, 118, 97, 116, 101, 75, 101, 121], .fnv (.func fn_iniwrite_file_3_1) [] [3000001], .cp 3 0]) (n := 0) (L := [(1, .cp 1 0), (3, .cp 3 0), (4, .fnv (.func fn_iniwrite_file_1) [] [3000000]), (5, .fnv (.func fn_iniwrite_file_2) [] []), (6, .fnv (.func fn_iniwrite_file_3) [] [])]) (Γr := (fun p8 => ⟨[], [(1, .cells [(35, .val T_api_Ini a)]), (3, .cells [(1, .own 1011)]), (1011, .row T.str p8), (2000001, .ghost (.cp 1 0)), (2000003, .ghost (.cp 3 0)), (2000004, .ghost (.fnv (.func fn_iniwrite_file_1) [] [3000000])), (2000005, .ghost (.fnv (.func fn_iniwrite_file_2) [] [])), (2000006, .ghost (.fnv (.func fn_iniwrite_file_3) [] [])), (3000000, .keep (.cp 3 0))]⟩)) rfl 2000000 (fun p8 => ⟨[(22, .tup []), (1, .cp 1 0), (3, .cp 3 0), (4, .fnv (.func fn_iniwrite_file_1) [] [3000000]), (5, .fnv (.func fn_iniwrite_file_2) [] []), (6, .fnv (.func fn_iniwrite_file_3) [] [])], [(1, .cells [(35, .val T_api_Ini a)]), (3, .cells [(1, .own 1011)]), (1011, .row T.str p8), (3000000, .keep (.cp 3 0))]⟩) (fun _ => .nil) f_iniwrite_file_1 rfl rfl rfl (c_callv (o_t rfl) rfl) (.cons (s_o (o_t rfl)) <| .cons (s_o o_s) <| .cons (s_o (o_t rfl)) <| .cons (s_k rfl) <| .nil) ⟨⟨rfl, rfl⟩, ⟨⟨rfl, rfl⟩, ⟨⟨rfl, rfl⟩, ⟨⟨rfl, rfl⟩, ⟨⟨rfl, rfl⟩, trivial⟩⟩⟩⟩⟩ rfl (
 Sim.seqI <| Sim.op1 (h_mv (o_t rfl)) <|
 Sim.doneS <| Sim.cond (o_t rfl) (
 Sim.regd 3 <| SimD.late rfl (h_ldCr (o_t rfl) rfl rfl rfl) <|
 SimD.op1 rfl (h_mv (o_t rfl)) <|
 SimD.op rfl (h_sadd (o_t rfl) o_s) fun x9 =>
 SimD.op1 rfl (h_mv (o_t rfl)) <|
 SimD.inl (τ := Str) (φs := [.cp 1001 0]) (n := 1) (L := [(3, .cp 3 0), (8, .own 1011), (10, .val T.str x9)]) (Γr := (fun p10 => ⟨[(0, .val T.str p10)], [(1, .cells [(35, .val T_api_Ini a)]), (3, .cells [(1, .own 1011)]), (1011, .row T.str (.mk x1)), (2000001, .ghost (.cp 1 0)), (2000003, .ghost (.cp 3 0)), (2000004, .ghost (.fnv (.func fn_iniwrite_file_1) [] [3000000])), (2000005, .ghost (.fnv (.func fn_iniwrite_file_2) [] [])), (2000006, .ghost (.fnv (.func fn_iniwrite_file_3) [] [])), (2100003, .ghost (.cp 3 0)), (2100008, .ghost (.own 1011)), (2100010, .ghost (.val T.str x9)), (3000000, .keep (.cp 3 0))]⟩)) rfl 2100000 (fun p10 => ⟨[(12, .val T.str p10), (3, .cp 3 0), (8, .own 1011), (10, .val T.str x9)], [(1, .cells [(35, .val T_api_Ini a)]), (3, .cells [(1, .own 1011)]), (1011, .row T.str (.mk x1)), (2000001, .ghost (.cp 1 0)), (2000003, .ghost (.cp 3 0)), (2000004, .ghost (.fnv (.func fn_iniwrite_file_1) [] [3000000])), (2000005, .ghost (.fnv (.func fn_iniwrite_file_2) [] [])), (2000006, .ghost (.fnv (.func fn_iniwrite_file_3) [] [])), (3000000, .keep (.cp 3 0))]⟩) (fun _ => .cons (h_ldCr (o_t rfl) rfl rfl rfl) (o_t rfl) trivial (.nil)) f_iniwrite_file_3_1 rfl rfl rfl (c_callv (o_t rfl) rfl) (.cons (s_k rfl) <| .nil) ⟨⟨rfl, rfl⟩, ⟨⟨rfl, rfl⟩, ⟨⟨rfl, rfl⟩, trivial⟩⟩⟩ rfl (
 Sim.seqI <| Sim.op1 (h_mv o_s) <|
 Sim.doneS <| Sim.seqI <| Sim.opn (h_ldC (t := (T.arr 32 T.u8)) (u := (T.arr 32 T.u8)) (o_t rfl) rfl rfl (Fld.id _) rfl rfl) fun x11 =>
 Sim.op (h_call1 sp_keys_Text (.one (o_t rfl))) fun x12 =>
 Sim.op1 (h_mv (o_t rfl)) <|
 Sim.doneS <| Sim.retIn x12 (.cons (rg_t rfl) <| .nil) ⟨⟨⟨rfl, trivial⟩, trivial⟩, ⟨⟨rfl, ⟨trivial, trivial⟩⟩, ⟨⟨rfl, ⟨trivial, trivial⟩⟩, ⟨⟨rfl, trivial⟩, ⟨⟨rfl, trivial⟩, ⟨⟨rfl, trivial⟩, ⟨⟨rfl, ⟨trivial, trivial⟩⟩, ⟨⟨rfl, trivial⟩, ⟨⟨rfl, trivial⟩, ⟨⟨rfl, trivial⟩, ⟨⟨rfl, trivial⟩, ⟨⟨rfl, trivial⟩, ⟨⟨rfl, trivial⟩, trivial⟩⟩⟩⟩⟩⟩⟩⟩⟩⟩⟩⟩⟩) (fun p10 => BackOk.some' ⟨⟨rfl, ⟨trivial, trivial⟩⟩, ⟨⟨rfl, ⟨trivial, trivial⟩⟩, ⟨⟨rfl, trivial⟩, ⟨⟨rfl, trivial⟩, ⟨⟨rfl, trivial⟩, ⟨⟨rfl, ⟨trivial, trivial⟩⟩, ⟨⟨rfl, trivial⟩, ⟨⟨rfl, trivial⟩, ⟨⟨rfl, trivial⟩, trivial⟩⟩⟩⟩⟩⟩⟩⟩⟩ rfl (.one rfl) trivial ⟨⟨rfl, trivial⟩, ⟨⟨rfl, trivial⟩, ⟨⟨rfl, trivial⟩, trivial⟩⟩⟩) fun p10 =>
 SimD.op rfl (h_sadd (o_t rfl) (o_t rfl)) fun x13 =>
 SimD.op rfl (h_bll (t := T.str) (n := 1) rfl rfl (.cons rfl (o_t rfl) <| .nil _)) fun x14 =>
 SimD.opM rfl (fun _ => .nil) (M_app rfl (o_t rfl) rfl (n_sl (o_t rfl))) fun x15 =>
 SimD.opM rfl (fun _ => .nil) (M_stR rfl rfl (o_t rfl) (o_t rfl) rfl rfl) fun _ =>
 SimD.done <| Sim.finIn x15 (.nil) ⟨trivial, ⟨⟨rfl, ⟨trivial, trivial⟩⟩, ⟨⟨rfl, ⟨trivial, trivial⟩⟩, ⟨⟨rfl, trivial⟩, ⟨⟨rfl, trivial⟩, ⟨⟨rfl, trivial⟩, ⟨⟨rfl, ⟨trivial, trivial⟩⟩, ⟨⟨rfl, trivial⟩, ⟨⟨rfl, trivial⟩, ⟨⟨rfl, trivial⟩, trivial⟩⟩⟩⟩⟩⟩⟩⟩⟩⟩) (
 Sim.skip <| Sim.finIn (.mk x1) (.nil) ⟨trivial, ⟨⟨rfl, ⟨trivial, trivial⟩⟩, ⟨⟨rfl, ⟨trivial, trivial⟩⟩, ⟨⟨rfl, trivial⟩, ⟨⟨rfl, trivial⟩, ⟨⟨rfl, trivial⟩, ⟨⟨rfl, ⟨trivial, trivial⟩⟩, ⟨⟨rfl, trivial⟩, ⟨⟨rfl, trivial⟩, ⟨⟨rfl, trivial⟩, trivial⟩⟩⟩⟩⟩⟩⟩⟩⟩⟩)) (fun p8 => BackOk.some' ⟨⟨rfl, ⟨trivial, trivial⟩⟩, ⟨⟨rfl, ⟨trivial, trivial⟩⟩, ⟨⟨rfl, trivial⟩, ⟨⟨rfl, trivial⟩, trivial⟩⟩⟩⟩ rfl .none trivial ⟨⟨rfl, trivial⟩, ⟨⟨rfl, trivial⟩, ⟨⟨rfl, ⟨trivial, trivial⟩⟩, ⟨⟨rfl, trivial⟩, ⟨⟨rfl, trivial⟩, trivial⟩⟩⟩⟩⟩) fun p8 =>
 SimD.done <| Sim.doneS <| Sim.seqI <| Sim.regd 2 <| SimD.op1 rfl (h_mv (o_t rfl)) <|
 SimD.op1 rfl (h_faC (o_t rfl)) <|
 SimD.late rfl (h_ldC (t := T_api_Ini) (u := (T.int .i64)) (o_t rfl) rfl rfl F_api_Ini_Port rfl rfl) <|
 SimD.op rfl (h_cmp (I := (IT.int .i64)) rfl (o_t rfl) o_i) fun x16 =>
 SimD.op1 rfl (h_mv (o_t rfl)) <|
 SimD.op1 rfl (h_faC (o_t rfl)) <|
 SimD.opn rfl (h_ldC (t := T_api_Ini) (u := (T.int .i64)) (o_t rfl) rfl rfl F_api_Ini_Port rfl rfl) fun x17 =>
 SimD.inl (τ := Unit) (φs := [.val (T.int .i64) x17]) (n := 1) (L := [(1, .cp 1 0), (3, .cp 3 0), (4, .fnv (.func fn_iniwrite_file_1) [] [3000000]), (5, .fnv (.func fn_iniwrite_file_2) [] []), (6, .fnv (.func fn_iniwrite_file_3) [] []), (23, .fnv (.func fn_iniwrite_file_1) [] [3000000]), (24, .cp 1 32), (25, .val (T.int .i64) (F_api_Ini_Port.get a)), (26, .val T.b x16)]) (Γr := (fun p18 => ⟨[(0, .fnv (.func fn_iniwrite_file_2_1) [] [3000002])], [(1, .cells [(35, .val T_api_Ini a)]), (3, .cells [(1, .own 1011)]), (1001, .cells [(1, .val (T.int .i64) x17)]), (1011, .row T.str p8), (2000001, .ghost (.cp 1 0)), (2000003, .ghost (.cp 3 0)), (2000004, .ghost (.fnv (.func fn_iniwrite_file_1) [] [3000000])), (2000005, .ghost (.fnv (.func fn_iniwrite_file_2) [] [])), (2000006, .ghost (.fnv (.func fn_iniwrite_file_3) [] [])), (2000023, .ghost (.fnv (.func fn_iniwrite_file_1) [] [3000000])), (2000024, .ghost (.cp 1 32)), (2000025, .ghost (.val (T.int .i64) (F_api_Ini_Port.get a))), (2000026, .ghost (.val T.b x16)), (3000000, .keep (.cp 3 0)), (3000002, .keep (.cp 1001 0))]⟩)) rfl 2000000 (fun p18 => ⟨[(30, .fnv (.func fn_iniwrite_file_2_1) [] [3000002]), (1, .cp 1 0), (3, .cp 3 0), (4, .fnv (.func fn_iniwrite_file_1) [] [3000000]), (5, .fnv (.func fn_iniwrite_file_2) [] []), (6, .fnv (.func fn_iniwrite_file_3) [] []), (23, .fnv (.func fn_iniwrite_file_1) [] [3000000]), (24, .cp 1 32), (25, .val (T.int .i64) (F_api_Ini_Port.get a)), (26, .val T.b x16)], [(1, .cells [(35, .val T_api_Ini a)]), (3, .cells [(1, .own 1011)]), (1001, .cells [(1, .val (T.int .i64) x17)]), (1011, .row T.str p8), (3000000, .keep (.cp 3 0)), (3000002, .keep (.cp 1001 0))]⟩) (fun _ => .cons (h_ldC (t := T_api_Ini) (u := (T.int .i64)) (o_t rfl) rfl rfl F_api_Ini_Port rfl rfl) (o_t rfl) uni_int (.nil)) f_iniwrite_file_2 rfl rfl rfl (c_callv (o_t rfl) rfl) (.cons (s_o (o_t rfl)) <| .nil) ⟨⟨rfl, rfl⟩, ⟨⟨rfl, rfl⟩, ⟨⟨rfl, rfl⟩, ⟨⟨rfl, rfl⟩, ⟨⟨rfl, rfl⟩, ⟨⟨rfl, rfl⟩, ⟨⟨rfl, rfl⟩, ⟨⟨rfl, rfl⟩, ⟨⟨rfl, rfl⟩, trivial⟩⟩⟩⟩⟩⟩⟩⟩⟩ rfl (
 Sim.seqI <| Sim.opM (M_box (t := (T.int .i64)) 1001 rfl rfl (o_t rfl)) fun _ =>
 Sim.op1 (h_mv (o_con rfl rfl)) <|
 Sim.doneS <| Sim.seqI <| Sim.opN (M_mkf (φs := []) (ψs := [.cp 1001 0]) 3000002 (.nil) (.cons (o_t rfl) <| .nil) rfl ⟨rfl, trivial⟩ (js := []) (ks := [3000002]) rfl rfl) <|
 Sim.op1 (h_mv (o_t rfl)) <|
 Sim.doneS <| Sim.retIn () (.cons (rg_t rfl) <| .nil) ⟨⟨⟨rfl, ⟨trivial, trivial⟩⟩, trivial⟩, ⟨⟨rfl, ⟨trivial, trivial⟩⟩, ⟨⟨rfl, ⟨trivial, trivial⟩⟩, ⟨⟨rfl, ⟨trivial, trivial⟩⟩, ⟨⟨rfl, trivial⟩, ⟨⟨rfl, trivial⟩, ⟨⟨rfl, trivial⟩, ⟨⟨rfl, ⟨trivial, trivial⟩⟩, ⟨⟨rfl, trivial⟩, ⟨⟨rfl, trivial⟩, ⟨⟨rfl, ⟨trivial, trivial⟩⟩, ⟨⟨rfl, trivial⟩, ⟨⟨rfl, trivial⟩, ⟨⟨rfl, trivial⟩, ⟨⟨rfl, trivial⟩, ⟨⟨rfl, trivial⟩, trivial⟩⟩⟩⟩⟩⟩⟩⟩⟩⟩⟩⟩⟩⟩⟩⟩) (fun p18 => BackOk.some' ⟨⟨rfl, ⟨trivial, trivial⟩⟩, ⟨⟨rfl, ⟨trivial, trivial⟩⟩, ⟨⟨rfl, ⟨trivial, trivial⟩⟩, ⟨⟨rfl, trivial⟩, ⟨⟨rfl, trivial⟩, ⟨⟨rfl, trivial⟩, trivial⟩⟩⟩⟩⟩⟩ rfl (.one rfl) ⟨trivial, trivial⟩ ⟨⟨rfl, trivial⟩, ⟨⟨rfl, trivial⟩, ⟨⟨rfl, ⟨trivial, trivial⟩⟩, ⟨⟨rfl, trivial⟩, ⟨⟨rfl, trivial⟩, ⟨⟨rfl, ⟨trivial, trivial⟩⟩, ⟨⟨rfl, trivial⟩, ⟨⟨rfl, trivial⟩, ⟨⟨rfl, trivial⟩, trivial⟩⟩⟩⟩⟩⟩⟩⟩⟩) fun p18 =>
 SimD.inl (τ := (GS Str)) (φs := [.val T.b x16, .val T.str [76, 105, 115, 116, 101, 110, 80, 111, 114, 116], .fnv (.func fn_iniwrite_file_2_1) [] [3000002], .cp 3 0]) (n := 0) (L := [(1, .cp 1 0), (3, .cp 3 0), (4, .fnv (.func fn_iniwrite_file_1) [] [3000000]), (5, .fnv (.func fn_iniwrite_file_2) [] []), (6, .fnv (.func fn_iniwrite_file_3) [] [])]) (Γr := (fun p19 => ⟨[], [(1, .cells [(35, .val T_api_Ini a)]), (3, .cells [(1, .own 1011)]), (1011, .row T.str p19), (2000001, .ghost (.cp 1 0)), (2000003, .ghost (.cp 3 0)), (2000004, .ghost (.fnv (.func fn_iniwrite_file_1) [] [3000000])), (2000005, .ghost (.fnv (.func fn_iniwrite_file_2) [] [])), (2000006, .ghost (.fnv (.func fn_iniwrite_file_3) [] [])), (3000000, .keep (.cp 3 0))]⟩)) rfl 2000000 (fun p19 => ⟨[(31, .tup []), (1, .cp 1 0), (3, .cp 3 0), (4, .fnv (.func fn_iniwrite_file_1) [] [3000000]), (5, .fnv (.func fn_iniwrite_file_2) [] []), (6, .fnv (.func fn_iniwrite_file_3) [] [])], [(1, .cells [(35, .val T_api_Ini a)]), (3, .cells [(1, .own 1011)]), (1011, .row T.str p19), (3000000, .keep (.cp 3 0))]⟩) (fun _ => .nil) f_iniwrite_file_1 rfl rfl rfl (c_callv (o_t rfl) rfl) (.cons (s_o (o_t rfl)) <| .cons (s_o o_s) <| .cons (s_o (o_t rfl)) <| .cons (s_k rfl) <| .nil) ⟨⟨rfl, rfl⟩, ⟨⟨rfl, rfl⟩, ⟨⟨rfl, rfl⟩, ⟨⟨rfl, rfl⟩, ⟨⟨rfl, rfl⟩, trivial⟩⟩⟩⟩⟩ rfl (
 Sim.seqI <| Sim.op1 (h_mv (o_t rfl)) <|
 Sim.doneS <| Sim.cond (o_t rfl) (
 Sim.regd 3 <| SimD.late rfl (h_ldCr (o_t rfl) rfl rfl rfl) <|
 SimD.op1 rfl (h_mv (o_t rfl)) <|
 SimD.op rfl (h_sadd (o_t rfl) o_s) fun x20 =>
 SimD.op1 rfl (h_mv (o_t rfl)) <|
 SimD.inl (τ := Str) (φs := [.cp 1001 0]) (n := 1) (L := [(3, .cp 3 0), (8, .own 1011), (10, .val T.str x20)]) (Γr := (fun p21 => ⟨[(0, .val T.str p21)], [(1, .cells [(35, .val T_api_Ini a)]), (3, .cells [(1, .own 1011)]), (1011, .row T.str p8), (2000001, .ghost (.cp 1 0)), (2000003, .ghost (.cp 3 0)), (2000004, .ghost (.fnv (.func fn_iniwrite_file_1) [] [3000000])), (2000005, .ghost (.fnv (.func fn_iniwrite_file_2) [] [])), (2000006, .ghost (.fnv (.func fn_iniwrite_file_3) [] [])), (2100003, .ghost (.cp 3 0)), (2100008, .ghost (.own 1011)), (2100010, .ghost (.val T.str x20)), (3000000, .keep (.cp 3 0))]⟩)) rfl 2100000 (fun p21 => ⟨[(12, .val T.str p21), (3, .cp 3 0), (8, .own 1011), (10, .val T.str x20)], [(1, .cells [(35, .val T_api_Ini a)]), (3, .cells [(1, .own 1011)]), (1011, .row T.str p8), (2000001, .ghost (.cp 1 0)), (2000003, .ghost (.cp 3 0)), (2000004, .ghost (.fnv (.func fn_iniwrite_file_1) [] [3000000])), (2000005, .ghost (.fnv (.func fn_iniwrite_file_2) [] [])), (2000006, .ghost (.fnv (.func fn_iniwrite_file_3) [] [])), (3000000, .keep (.cp 3 0))]⟩) (fun _ => .cons (h_ldCr (o_t rfl) rfl rfl rfl) (o_t rfl) trivial (.nil)) f_iniwrite_file_2_1 rfl rfl rfl (c_callv (o_t rfl) rfl) (.cons (s_k rfl) <| .nil) ⟨⟨rfl, rfl⟩, ⟨⟨rfl, rfl⟩, ⟨⟨rfl, rfl⟩, trivial⟩⟩⟩ rfl (
 Sim.seqI <| Sim.op1 (h_mv o_s) <|
 Sim.doneS <| Sim.seqI <| Sim.opn (h_ldC (t := (T.int .i64)) (u := (T.int .i64)) (o_t rfl) rfl rfl (Fld.id _) rfl rfl) fun x22 =>
 Sim.op (h_cvi (I := (IT.int .i64)) (J := IT.u64) rfl (o_t rfl)) fun x23 =>
 Sim.op (h_call1 sp_decimal_Text (.one (o_t rfl))) fun x24 =>
 Sim.op1 (h_mv (o_t rfl)) <|
 Sim.doneS <| Sim.retIn x24 (.cons (rg_t rfl) <| .nil) ⟨⟨⟨rfl, trivial⟩, trivial⟩, ⟨⟨rfl, ⟨trivial, trivial⟩⟩, ⟨⟨rfl, ⟨trivial, trivial⟩⟩, ⟨⟨rfl, trivial⟩, ⟨⟨rfl, trivial⟩, ⟨⟨rfl, trivial⟩, ⟨⟨rfl, ⟨trivial, trivial⟩⟩, ⟨⟨rfl, trivial⟩, ⟨⟨rfl, trivial⟩, ⟨⟨rfl, trivial⟩, ⟨⟨rfl, trivial⟩, ⟨⟨rfl, trivial⟩, ⟨⟨rfl, trivial⟩, trivial⟩⟩⟩⟩⟩⟩⟩⟩⟩⟩⟩⟩⟩) (fun p21 => BackOk.some' ⟨⟨rfl, ⟨trivial, trivial⟩⟩, ⟨⟨rfl, ⟨trivial, trivial⟩⟩, ⟨⟨rfl, trivial⟩, ⟨⟨rfl, trivial⟩, ⟨⟨rfl, trivial⟩, ⟨⟨rfl, ⟨trivial, trivial⟩⟩, ⟨⟨rfl, trivial⟩, ⟨⟨rfl, trivial⟩, ⟨⟨rfl, trivial⟩, trivial⟩⟩⟩⟩⟩⟩⟩⟩⟩ rfl (.one rfl) trivial ⟨⟨rfl, trivial⟩, ⟨⟨rfl, trivial⟩, ⟨⟨rfl, trivial⟩, trivial⟩⟩⟩) fun p21 =>
 SimD.op rfl (h_sadd (o_t rfl) (o_t rfl)) fun x25 =>
 SimD.op rfl (h_bll (t := T.str) (n := 1) rfl rfl (.cons rfl (o_t rfl) <| .nil _)) fun x26 =>
 SimD.opM rfl (fun _ => .nil) (M_app rfl (o_t rfl) rfl (n_sl (o_t rfl))) fun x27 =>
 SimD.opM rfl (fun _ => .nil) (M_stR rfl rfl (o_t rfl) (o_t rfl) rfl rfl) fun _ =>
 SimD.done <| Sim.finIn x27 (.nil) ⟨trivial, ⟨⟨rfl, ⟨trivial, trivial⟩⟩, ⟨⟨rfl, ⟨trivial, trivial⟩⟩, ⟨⟨rfl, trivial⟩, ⟨⟨rfl, trivial⟩, ⟨⟨rfl, trivial⟩, ⟨⟨rfl, ⟨trivial, trivial⟩⟩, ⟨⟨rfl, trivial⟩, ⟨⟨rfl, trivial⟩, ⟨⟨rfl, trivial⟩, trivial⟩⟩⟩⟩⟩⟩⟩⟩⟩⟩) (
 Sim.skip <| Sim.finIn p8 (.nil) ⟨trivial, ⟨⟨rfl, ⟨trivial, trivial⟩⟩, ⟨⟨rfl, ⟨trivial, trivial⟩⟩, ⟨⟨rfl, trivial⟩, ⟨⟨rfl, trivial⟩, ⟨⟨rfl, trivial⟩, ⟨⟨rfl, ⟨trivial, trivial⟩⟩, ⟨⟨rfl, trivial⟩, ⟨⟨rfl, trivial⟩, ⟨⟨rfl, trivial⟩, trivial⟩⟩⟩⟩⟩⟩⟩⟩⟩⟩)) (fun p19 => BackOk.some' ⟨⟨rfl, ⟨trivial, trivial⟩⟩, ⟨⟨rfl, ⟨trivial, trivial⟩⟩, ⟨⟨rfl, trivial⟩, ⟨⟨rfl, trivial⟩, trivial⟩⟩⟩⟩ rfl .none trivial ⟨⟨rfl, trivial⟩, ⟨⟨rfl, trivial⟩, ⟨⟨rfl, ⟨trivial, trivial⟩⟩, ⟨⟨rfl, trivial⟩, ⟨⟨rfl, trivial⟩, trivial⟩⟩⟩⟩⟩) fun p19 =>
 SimD.done <| Sim.doneS <| Sim.seqI <| Sim.regd 2 <| SimD.op1 rfl (h_mv (o_t rfl)) <|
 SimD.op1 rfl (h_faC (o_t rfl)) <|
 SimD.late rfl (h_ldC (t := T_api_Ini) (u := T.u32) (o_t rfl) rfl rfl F_api_Ini_Mark rfl rfl) <|
 SimD.op rfl (h_cmp (I := IT.u32) rfl (o_t rfl) (o_u32 0 rfl)) fun x28 =>
 SimD.op1 rfl (h_mv (o_t rfl)) <|
 SimD.op1 rfl (h_faC (o_t rfl)) <|
 SimD.opn rfl (h_ldC (t := T_api_Ini) (u := T.u32) (o_t rfl) rfl rfl F_api_Ini_Mark rfl rfl) fun x29 =>
 SimD.op rfl (h_cvi (I := IT.u32) (J := (IT.int .i64)) rfl (o_t rfl)) fun x30 =>
 SimD.inl (τ := Unit) (φs := [.val (T.int .i64) x30]) (n := 1) (L := [(1, .cp 1 0), (3, .cp 3 0), (4, .fnv (.func fn_iniwrite_file_1) [] [3000000]), (5, .fnv (.func fn_iniwrite_file_2) [] []), (6, .fnv (.func fn_iniwrite_file_3) [] []), (32, .fnv (.func fn_iniwrite_file_1) [] [3000000]), (33, .cp 1 33), (34, .val T.u32 (F_api_Ini_Mark.get a)), (35, .val T.b x28)]) (Γr := (fun p31 => ⟨[(0, .fnv (.func fn_iniwrite_file_2_1) [] [3000003])], [(1, .cells [(35, .val T_api_Ini a)]), (3, .cells [(1, .own 1011)]), (1001, .cells [(1, .val (T.int .i64) x30)]), (1011, .row T.str p19), (2000001, .ghost (.cp 1 0)), (2000003, .ghost (.cp 3 0)), (2000004, .ghost (.fnv (.func fn_iniwrite_file_1) [] [3000000])), (2000005, .ghost (.fnv (.func fn_iniwrite_file_2) [] [])), (2000006, .ghost (.fnv (.func fn_iniwrite_file_3) [] [])), (2000032, .ghost (.fnv (.func fn_iniwrite_file_1) [] [3000000])), (2000033, .ghost (.cp 1 33)), (2000034, .ghost (.val T.u32 (F_api_Ini_Mark.get a))), (2000035, .ghost (.val T.b x28)), (3000000, .keep (.cp 3 0)), (3000003, .keep (.cp 1001 0))]⟩)) rfl 2000000 (fun p31 => ⟨[(40, .fnv (.func fn_iniwrite_file_2_1) [] [3000003]), (1, .cp 1 0), (3, .cp 3 0), (4, .fnv (.func fn_iniwrite_file_1) [] [3000000]), (5, .fnv (.func fn_iniwrite_file_2) [] []), (6, .fnv (.func fn_iniwrite_file_3) [] []), (32, .fnv (.func fn_iniwrite_file_1) [] [3000000]), (33, .cp 1 33), (34, .val T.u32 (F_api_Ini_Mark.get a)), (35, .val T.b x28)], [(1, .cells [(35, .val T_api_Ini a)]), (3, .cells [(1, .own 1011)]), (1001, .cells [(1, .val (T.int .i64) x30)]), (1011, .row T.str p19), (3000000, .keep (.cp 3 0)), (3000003, .keep (.cp 1001 0))]⟩) (fun _ => .cons (h_ldC (t := T_api_Ini) (u := T.u32) (o_t rfl) rfl rfl F_api_Ini_Mark rfl rfl) (o_t rfl) uni_u32 (.nil)) f_iniwrite_file_2 rfl rfl rfl (c_callv (o_t rfl) rfl) (.cons (s_o (o_t rfl)) <| .nil) ⟨⟨rfl, rfl⟩, ⟨⟨rfl, rfl⟩, ⟨⟨rfl, rfl⟩, ⟨⟨rfl, rfl⟩, ⟨⟨rfl, rfl⟩, ⟨⟨rfl, rfl⟩, ⟨⟨rfl, rfl⟩, ⟨⟨rfl, rfl⟩, ⟨⟨rfl, rfl⟩, trivial⟩⟩⟩⟩⟩⟩⟩⟩⟩ rfl (
 Sim.seqI <| Sim.opM (M_box (t := (T.int .i64)) 1001 rfl rfl (o_t rfl)) fun _ =>
 Sim.op1 (h_mv (o_con rfl rfl)) <|
 Sim.doneS <| Sim.seqI <| Sim.opN (M_mkf (φs := []) (ψs := [.cp 1001 0]) 3000003 (.nil) (.cons (o_t rfl) <| .nil) rfl ⟨rfl, trivial⟩ (js := []) (ks := [3000003]) rfl rfl) <|
 Sim.op1 (h_mv (o_t rfl)) <|
 Sim.doneS <| Sim.retIn () (.cons (rg_t rfl) <| .nil) ⟨⟨⟨rfl, ⟨trivial, trivial⟩⟩, trivial⟩, ⟨⟨rfl, ⟨trivial, trivial⟩⟩, ⟨⟨rfl, ⟨trivial, trivial⟩⟩, ⟨⟨rfl, ⟨trivial, trivial⟩⟩, ⟨⟨rfl, trivial⟩, ⟨⟨rfl, trivial⟩, ⟨⟨rfl, trivial⟩, ⟨⟨rfl, ⟨trivial, trivial⟩⟩, ⟨⟨rfl, trivial⟩, ⟨⟨rfl, trivial⟩, ⟨⟨rfl, ⟨trivial, trivial⟩⟩, ⟨⟨rfl, trivial⟩, ⟨⟨rfl, trivial⟩, ⟨⟨rfl, trivial⟩, ⟨⟨rfl, trivial⟩, ⟨⟨rfl, trivial⟩, trivial⟩⟩⟩⟩⟩⟩⟩⟩⟩⟩⟩⟩⟩⟩⟩⟩) (fun p31 => BackOk.some' ⟨⟨rfl, ⟨trivial, trivial⟩⟩, ⟨⟨rfl, ⟨trivial, trivial⟩⟩, ⟨⟨rfl, ⟨trivial, trivial⟩⟩, ⟨⟨rfl, trivial⟩, ⟨⟨rfl, trivial⟩, ⟨⟨rfl, trivial⟩, trivial⟩⟩⟩⟩⟩⟩ rfl (.one rfl) ⟨trivial, trivial⟩ ⟨⟨rfl, trivial⟩, ⟨⟨rfl, trivial⟩, ⟨⟨rfl, ⟨trivial, trivial⟩⟩, ⟨⟨rfl, trivial⟩, ⟨⟨rfl, trivial⟩, ⟨⟨rfl, ⟨trivial, trivial⟩⟩, ⟨⟨rfl, trivial⟩, ⟨⟨rfl, trivial⟩, ⟨⟨rfl, trivial⟩, trivial⟩⟩⟩⟩⟩⟩⟩⟩⟩) fun p31 =>
 SimD.inl (τ := (GS Str)) (φs := [.val T.b x28, .val T.str [70, 119, 77, 97, 114, 107], .fnv (.func fn_iniwrite_file_2_1) [] [3000003], .cp 3 0]) (n := 0) (L := [(1, .cp 1 0), (3, .cp 3 0), (4, .fnv (.func fn_iniwrite_file_1) [] [3000000]), (5, .fnv (.func fn_iniwrite_file_2) [] []), (6, .fnv (.func fn_iniwrite_file_3) [] [])]) (Γr := (fun p32 => ⟨[], [(1, .cells [(35, .val T_api_Ini a)]), (3, .cells [(1, .own 1011)]), (1011, .row T.str p32), (2000001, .ghost (.cp 1 0)), (2000003, .ghost (.cp 3 0)), (2000004, .ghost (.fnv (.func fn_iniwrite_file_1) [] [3000000])), (2000005, .ghost (.fnv (.func fn_iniwrite_file_2) [] [])), (2000006, .ghost (.fnv (.func fn_iniwrite_file_3) [] [])), (3000000, .keep (.cp 3 0))]⟩)) rfl 2000000 (fun p32 => ⟨[(41, .tup []), (1, .cp 1 0), (3, .cp 3 0), (4, .fnv (.func fn_iniwrite_file_1) [] [3000000]), (5, .fnv (.func fn_iniwrite_file_2) [] []), (6, .fnv (.func fn_iniwrite_file_3) [] [])], [(1, .cells [(35, .val T_api_Ini a)]), (3, .cells [(1, .own 1011)]), (1011, .row T.str p32), (3000000, .keep (.cp 3 0))]⟩) (fun _ => .nil) f_iniwrite_file_1 rfl rfl rfl (c_callv (o_t rfl) rfl) (.cons (s_o (o_t rfl)) <| .cons (s_o o_s) <| .cons (s_o (o_t rfl)) <| .cons (s_k rfl) <| .nil) ⟨⟨rfl, rfl⟩, ⟨⟨rfl, rfl⟩, ⟨⟨rfl, rfl⟩, ⟨⟨rfl, rfl⟩, ⟨⟨rfl, rfl⟩, trivial⟩⟩⟩⟩⟩ rfl (
 Sim.seqI <| Sim.op1 (h_mv (o_t rfl)) <|
 Sim.doneS <| Sim.cond (o_t rfl) (
 Sim.regd 3 <| SimD.late rfl (h_ldCr (o_t rfl) rfl rfl rfl) <|
 SimD.op1 rfl (h_mv (o_t rfl)) <|
 SimD.op rfl (h_sadd (o_t rfl) o_s) fun x33 =>
 SimD.op1 rfl (h_mv (o_t rfl)) <|
 SimD.inl (τ := Str) (φs := [.cp 1001 0]) (n := 1) (L := [(3, .cp 3 0), (8, .own 1011), (10, .val T.str x33)]) (Γr := (fun p34 => ⟨[(0, .val T.str p34)], [(1, .cells [(35, .val T_api_Ini a)]), (3, .cells [(1, .own 1011)]), (1011, .row T.str p19), (2000001, .ghost (.cp 1 0)), (2000003, .ghost (.cp 3 0)), (2000004, .ghost (.fnv (.func fn_iniwrite_file_1) [] [3000000])), (2000005, .ghost (.fnv (.func fn_iniwrite_file_2) [] [])), (2000006, .ghost (.fnv (.func fn_iniwrite_file_3) [] [])), (2100003, .ghost (.cp 3 0)), (2100008, .ghost (.own 1011)), (2100010, .ghost (.val T.str x33)), (3000000, .keep (.cp 3 0))]⟩)) rfl 2100000 (fun p34 => ⟨[(12, .val T.str p34), (3, .cp 3 0), (8, .own 1011), (10, .val T.str x33)], [(1, .cells [(35, .val T_api_Ini a)]), (3, .cells [(1, .own 1011)]), (1011, .row T.str p19), (2000001, .ghost (.cp 1 0)), (2000003, .ghost (.cp 3 0)), (2000004, .ghost (.fnv (.func fn_iniwrite_file_1) [] [3000000])), (2000005, .ghost (.fnv (.func fn_iniwrite_file_2) [] [])), (2000006, .ghost (.fnv (.func fn_iniwrite_file_3) [] [])), (3000000, .keep (.cp 3 0))]⟩) (fun _ => .cons (h_ldCr (o_t rfl) rfl rfl rfl) (o_t rfl) trivial (.nil)) f_iniwrite_file_2_1 rfl rfl rfl (c_callv (o_t rfl) rfl) (.cons (s_k rfl) <| .nil) ⟨⟨rfl, rfl⟩, ⟨⟨rfl, rfl⟩, ⟨⟨rfl, rfl⟩, trivial⟩⟩⟩ rfl (
 Sim.seqI <| Sim.op1 (h_mv o_s) <|
 Sim.doneS <| Sim.seqI <| Sim.opn (h_ldC (t := (T.int .i64)) (u := (T.int .i64)) (o_t rfl) rfl rfl (Fld.id _) rfl rfl) fun x35 =>
 Sim.op (h_cvi (I := (IT.int .i64)) (J := IT.u64) rfl (o_t rfl)) fun x36 =>
 Sim.op (h_call1 sp_decimal_Text (.one (o_t rfl))) fun x37 =>
 Sim.op1 (h_mv (o_t rfl)) <|
 Sim.doneS <| Sim.retIn x37 (.cons (rg_t rfl) <| .nil) ⟨⟨⟨rfl, trivial⟩, trivial⟩, ⟨⟨rfl, ⟨trivial, trivial⟩⟩, ⟨⟨rfl, ⟨trivial, trivial⟩⟩, ⟨⟨rfl, trivial⟩, ⟨⟨rfl, trivial⟩, ⟨⟨rfl, trivial⟩, ⟨⟨rfl, ⟨trivial, trivial⟩⟩, ⟨⟨rfl, trivial⟩, ⟨⟨rfl, trivial⟩, ⟨⟨rfl, trivial⟩, ⟨⟨rfl, trivial⟩, ⟨⟨rfl, trivial⟩, ⟨⟨rfl, trivial⟩, trivial⟩⟩⟩⟩⟩⟩⟩⟩⟩⟩⟩⟩⟩) (fun p34 => BackOk.some' ⟨⟨rfl, ⟨trivial, trivial⟩⟩, ⟨⟨rfl, ⟨trivial, trivial⟩⟩, ⟨⟨rfl, trivial⟩, ⟨⟨rfl, trivial⟩, ⟨⟨rfl, trivial⟩, ⟨⟨rfl, ⟨trivial, trivial⟩⟩, ⟨⟨rfl, trivial⟩, ⟨⟨rfl, trivial⟩, ⟨⟨rfl, trivial⟩, trivial⟩⟩⟩⟩⟩⟩⟩⟩⟩ rfl (.one rfl) trivial ⟨⟨rfl, trivial⟩, ⟨⟨rfl, trivial⟩, ⟨⟨rfl, trivial⟩, trivial⟩⟩⟩) fun p34 =>
 SimD.op rfl (h_sadd (o_t rfl) (o_t rfl)) fun x38 =>
 SimD.op rfl (h_bll (t := T.str) (n := 1) rfl rfl (.cons rfl (o_t rfl) <| .nil _)) fun x39 =>
 SimD.opM rfl (fun _ => .nil) (M_app rfl (o_t rfl) rfl (n_sl (o_t rfl))) fun x40 =>
 SimD.opM rfl (fun _ => .nil) (M_stR rfl rfl (o_t rfl) (o_t rfl) rfl rfl) fun _ =>
 SimD.done <| Sim.finIn x40 (.nil) ⟨trivial, ⟨⟨rfl, ⟨trivial, trivial⟩⟩, ⟨⟨rfl, ⟨trivial, trivial⟩⟩, ⟨⟨rfl, trivial⟩, ⟨⟨rfl, trivial⟩, ⟨⟨rfl, trivial⟩, ⟨⟨rfl, ⟨trivial, trivial⟩⟩, ⟨⟨rfl, trivial⟩, ⟨⟨rfl, trivial⟩, ⟨⟨rfl, trivial⟩, trivial⟩⟩⟩⟩⟩⟩⟩⟩⟩⟩) (
 Sim.skip <| Sim.finIn p19 (.nil) ⟨trivial, ⟨⟨rfl, ⟨trivial, trivial⟩⟩, ⟨⟨rfl, ⟨trivial, trivial⟩⟩, ⟨⟨rfl, trivial⟩, ⟨⟨rfl, trivial⟩, ⟨⟨rfl, trivial⟩, ⟨⟨rfl, ⟨trivial, trivial⟩⟩, ⟨⟨rfl, trivial⟩, ⟨⟨rfl, trivial⟩, ⟨⟨rfl, trivial⟩, trivial⟩⟩⟩⟩⟩⟩⟩⟩⟩⟩)) (fun p32 => BackOk.some' ⟨⟨rfl, ⟨trivial, trivial⟩⟩, ⟨⟨rfl, ⟨trivial, trivial⟩⟩, ⟨⟨rfl, trivial⟩, ⟨⟨rfl, trivial⟩, trivial⟩⟩⟩⟩ rfl .none trivial ⟨⟨rfl, trivial⟩, ⟨⟨rfl, trivial⟩, ⟨⟨rfl, ⟨trivial, trivial⟩⟩, ⟨⟨rfl, trivial⟩, ⟨⟨rfl, trivial⟩, trivial⟩⟩⟩⟩⟩) fun p32 =>
 SimD.done <| Sim.doneS <| Sim.seqI <| Sim.seqI <| Sim.op1 (h_faC (o_t rfl)) <|
 Sim.opn (h_ldC (t := T_api_Ini) (u := (T.sl T_api_IniPeer)) (o_t rfl) rfl rfl F_api_Ini_Peers rfl rfl) fun x41 =>
 Sim.op (h_len (o_t rfl)) fun x42 =>
 Sim.op1 (h_mv o_i) <|
 Sim.doneS <| Sim.blkI <| Sim.loop (id := 0) (σ := (Int × (GS Str))) (τ := (GS Str)) (fun s43 => ⟨[(3, .cp 3 0), (4, .fnv (.func fn_iniwrite_file_1) [] [3000000]), (5, .fnv (.func fn_iniwrite_file_2) [] []), (6, .fnv (.func fn_iniwrite_file_3) [] []), (43, .val (T.sl T_api_IniPeer) x41), (44, .val (T.int .i64) x42), (45, .val (T.int .i64) s43.1)], [(3, .cells [(1, .own 1011)]), (1011, .row T.str s43.2), (3000000, .keep (.cp 3 0))]⟩) (fun p44 => ⟨[(3, .cp 3 0)], [(3, .cells [(1, .own 1011)]), (1011, .row T.str p44)]⟩) (0, p32) ⟨⟨⟨rfl, trivial⟩, ⟨⟨rfl, ⟨trivial, trivial⟩⟩, ⟨⟨rfl, trivial⟩, ⟨⟨rfl, trivial⟩, ⟨⟨rfl, trivial⟩, ⟨⟨rfl, trivial⟩, ⟨⟨rfl, trivial⟩, trivial⟩⟩⟩⟩⟩⟩⟩, ⟨⟨rfl, ⟨trivial, trivial⟩⟩, ⟨⟨rfl, trivial⟩, ⟨⟨rfl, trivial⟩, trivial⟩⟩⟩⟩ (fun _ => rfl) (fun s43 =>
 Sim.seqI <| Sim.op (h_cmp (I := (IT.int .i64)) rfl (o_t rfl) (o_t rfl)) fun x45 =>
 Sim.doneS <| Sim.seqI <| Sim.cond (o_t rfl) (
 Sim.skip <| Sim.doneS <| Sim.seqI <| Sim.blkI <| Sim.seqI <| Sim.op (h_ias rfl (o_t rfl) (o_t rfl)) fun x46 =>
 Sim.opn (h_ld rfl rfl (o_t rfl)) fun x47 =>
 Sim.opM (M_alloc (t := T_api_IniPeer) 8 rfl rfl) fun x48 =>
 Sim.opM (M_stC (o_t rfl) (o_t rfl) rfl rfl (Fld.id _) rfl) fun x49 =>
 Sim.doneS <| Sim.seqI <| Sim.op1 (h_ldCr (o_t rfl) rfl rfl rfl) <|
 Sim.op (h_bll (t := T.str) (n := 1) rfl rfl (.cons rfl o_s <| .nil _)) fun x50 =>
 Sim.opM (M_app rfl (o_t rfl) rfl (n_sl (o_t rfl))) fun x51 =>
 Sim.opM (M_stR rfl rfl (o_t rfl) (o_t rfl) rfl rfl) fun _ =>
 Sim.doneS <| Sim.seqI <| Sim.op1 (h_mv (o_t rfl)) <|
 Sim.op1 (h_mv (o_t rfl)) <|
 Sim.op1 (h_faC (o_t rfl)) <|
 Sim.opn (h_ldC (t := T_api_IniPeer) (u := (T.arr 32 T.u8)) (o_t rfl) rfl rfl F_api_IniPeer_Key rfl rfl) fun x52 =>
 Sim.inl (τ := Unit) (φs := [.val (T.arr 32 T.u8) x52]) (n := 1) (L := [(3, .cp 3 0), (4, .fnv (.func fn_iniwrite_file_1) [] [3000000]), (5, .fnv (.func fn_iniwrite_file_2) [] []), (6, .fnv (.func fn_iniwrite_file_3) [] []), (8, .cp 8 0), (43, .val (T.sl T_api_IniPeer) x41), (44, .val (T.int .i64) x42), (45, .val (T.int .i64) s43.1), (52, .fnv (.func fn_iniwrite_file_1) [] [3000000])]) (Γr := (fun p53 => ⟨[(0, .fnv (.func fn_iniwrite_file_3_1) [] [3000004])], [(1, .cells [(32, .val (T.arr 32 T.u8) x52)]), (3, .cells [(1, .own 1011)]), (8, .cells [(84, .val T_api_IniPeer x49)]), (1011, .row T.str x51), (2000003, .ghost (.cp 3 0)), (2000004, .ghost (.fnv (.func fn_iniwrite_file_1) [] [3000000])), (2000005, .ghost (.fnv (.func fn_iniwrite_file_2) [] [])), (2000006, .ghost (.fnv (.func fn_iniwrite_file_3) [] [])), (2000008, .ghost (.cp 8 0)), (2000043, .ghost (.val (T.sl T_api_IniPeer) x41)), (2000044, .ghost (.val (T.int .i64) x42)), (2000045, .ghost (.val (T.int .i64) s43.1)), (2000052, .ghost (.fnv (.func fn_iniwrite_file_1) [] [3000000])), (3000000, .keep (.cp 3 0)), (3000004, .keep (.cp 1 0))]⟩)) 2000000 (fun p53 => ⟨[(56, .fnv (.func fn_iniwrite_file_3_1) [] [3000004]), (3, .cp 3 0), (4, .fnv (.func fn_iniwrite_file_1) [] [3000000]), (5, .fnv (.func fn_iniwrite_file_2) [] []), (6, .fnv (.func fn_iniwrite_file_3) [] []), (8, .cp 8 0), (43, .val (T.sl T_api_IniPeer) x41), (44, .val (T.int .i64) x42), (45, .val (T.int .i64) s43.1), (52, .fnv (.func fn_iniwrite_file_1) [] [3000000])], [(1, .cells [(32, .val (T.arr 32 T.u8) x52)]), (3, .cells [(1, .own 1011)]), (8, .cells [(84, .val T_api_IniPeer x49)]), (1011, .row T.str x51), (3000000, .keep (.cp 3 0)), (3000004, .keep (.cp 1 0))]⟩) f_iniwrite_file_3 rfl rfl rfl (c_callv (o_t rfl) rfl) (.cons (s_o (o_t rfl)) <| .nil) ⟨⟨rfl, rfl⟩, ⟨⟨rfl, rfl⟩, ⟨⟨rfl, rfl⟩, ⟨⟨rfl, rfl⟩, ⟨⟨rfl, rfl⟩, ⟨⟨rfl, rfl⟩, ⟨⟨rfl, rfl⟩, ⟨⟨rfl, rfl⟩, ⟨⟨rfl, rfl⟩, trivial⟩⟩⟩⟩⟩⟩⟩⟩⟩ rfl (
 Sim.seqI <| Sim.opM (M_box (t := (T.arr 32 T.u8)) 1 rfl rfl (o_t rfl)) fun _ =>
 Sim.op1 (h_mv (o_con rfl rfl)) <|
 Sim.doneS <| Sim.seqI <| Sim.opN (M_mkf (φs := []) (ψs := [.cp 1 0]) 3000004 (.nil) (.cons (o_t rfl) <| .nil) rfl ⟨rfl, trivial⟩ (js := []) (ks := [3000004]) rfl rfl) <|
 Sim.op1 (h_mv (o_t rfl)) <|
 Sim.doneS <| Sim.retIn () (.cons (rg_t rfl) <| .nil) ⟨⟨⟨rfl, ⟨trivial, trivial⟩⟩, trivial⟩, ⟨⟨rfl, ⟨trivial, trivial⟩⟩, ⟨⟨rfl, ⟨trivial, trivial⟩⟩, ⟨⟨rfl, ⟨trivial, trivial⟩⟩, ⟨⟨rfl, trivial⟩, ⟨⟨rfl, trivial⟩, ⟨⟨rfl, ⟨trivial, trivial⟩⟩, ⟨⟨rfl, trivial⟩, ⟨⟨rfl, trivial⟩, ⟨⟨rfl, trivial⟩, ⟨⟨rfl, trivial⟩, ⟨⟨rfl, trivial⟩, ⟨⟨rfl, trivial⟩, ⟨⟨rfl, ⟨trivial, trivial⟩⟩, ⟨⟨rfl, trivial⟩, ⟨⟨rfl, trivial⟩, trivial⟩⟩⟩⟩⟩⟩⟩⟩⟩⟩⟩⟩⟩⟩⟩⟩) (fun p53 => BackOk.some' ⟨⟨rfl, ⟨trivial, trivial⟩⟩, ⟨⟨rfl, ⟨trivial, trivial⟩⟩, ⟨⟨rfl, ⟨trivial, trivial⟩⟩, ⟨⟨rfl, trivial⟩, ⟨⟨rfl, trivial⟩, ⟨⟨rfl, trivial⟩, trivial⟩⟩⟩⟩⟩⟩ rfl (.one rfl) ⟨trivial, trivial⟩ ⟨⟨rfl, trivial⟩, ⟨⟨rfl, ⟨trivial, trivial⟩⟩, ⟨⟨rfl, trivial⟩, ⟨⟨rfl, trivial⟩, ⟨⟨rfl, trivial⟩, ⟨⟨rfl, trivial⟩, ⟨⟨rfl, trivial⟩, ⟨⟨rfl, trivial⟩, ⟨⟨rfl, ⟨trivial, trivial⟩⟩, trivial⟩⟩⟩⟩⟩⟩⟩⟩⟩) (.one fun p53 =>
 Sim.inl (τ := (GS Str)) (φs := [.val T.b true, .val T.str [80, 117, 98, 108, 105, 99, 75, 101, 121], .fnv (.func fn_iniwrite_file_3_1) [] [3000004], .cp 3 0]) (n := 0) (L := [(3, .cp 3 0), (4, .fnv (.func fn_iniwrite_file_1) [] [3000000]), (5, .fnv (.func fn_iniwrite_file_2) [] []), (6, .fnv (.func fn_iniwrite_file_3) [] []), (8, .cp 8 0), (43, .val (T.sl T_api_IniPeer) x41), (44, .val (T.int .i64) x42), (45, .val (T.int .i64) s43.1)]) (Γr := (fun p54 => ⟨[], [(3, .cells [(1, .own 1011)]), (8, .cells [(84, .val T_api_IniPeer x49)]), (1011, .row T.str p54), (2000003, .ghost (.cp 3 0)), (2000004, .ghost (.fnv (.func fn_iniwrite_file_1) [] [3000000])), (2000005, .ghost (.fnv (.func fn_iniwrite_file_2) [] [])), (2000006, .ghost (.fnv (.func fn_iniwrite_file_3) [] [])), (2000008, .ghost (.cp 8 0)), (2000043, .ghost (.val (T.sl T_api_IniPeer) x41)), (2000044, .ghost (.val (T.int .i64) x42)), (2000045, .ghost (.val (T.int .i64) s43.1)), (3000000, .keep (.cp 3 0))]⟩)) 2000000 (fun p54 => ⟨[(57, .tup []), (3, .cp 3 0), (4, .fnv (.func fn_iniwrite_file_1) [] [3000000]), (5, .fnv (.func fn_iniwrite_file_2) [] []), (6, .fnv (.func fn_iniwrite_file_3) [] []), (8, .cp 8 0), (43, .val (T.sl T_api_IniPeer) x41), (44, .val (T.int .i64) x42), (45, .val (T.int .i64) s43.1)], [(3, .cells [(1, .own 1011)]), (8, .cells [(84, .val T_api_IniPeer x49)]), (1011, .row T.str p54), (3000000, .keep (.cp 3 0))]⟩) f_iniwrite_file_1 rfl rfl rfl (c_callv (o_t rfl) rfl) (.cons (s_o o_b) <| .cons (s_o o_s) <| .cons (s_o (o_t rfl)) <| .cons (s_k rfl) <| .nil) ⟨⟨rfl, rfl⟩, ⟨⟨rfl, rfl⟩, ⟨⟨rfl, rfl⟩, ⟨⟨rfl, rfl⟩, ⟨⟨rfl, rfl⟩, ⟨⟨rfl, rfl⟩, ⟨⟨rfl, rfl⟩, ⟨⟨rfl, rfl⟩, trivial⟩⟩⟩⟩⟩⟩⟩⟩ rfl (
 Sim.seqI <| Sim.op1 (h_mv (o_t rfl)) <|
 Sim.doneS <| Sim.condT (o_t rfl) <|
 Sim.regd 3 <| SimD.late rfl (h_ldCr (o_t rfl) rfl rfl rfl) <|
 SimD.op1 rfl (h_mv (o_t rfl)) <|
 SimD.op rfl (h_sadd (o_t rfl) o_s) fun x55 =>
 SimD.op1 rfl (h_mv (o_t rfl)) <|
 SimD.inl (τ := Str) (φs := [.cp 1 0]) (n := 1) (L := [(3, .cp 3 0), (8, .own 1011), (10, .val T.str x55)]) (Γr := (fun p56 => ⟨[(0, .val T.str p56)], [(3, .cells [(1, .own 1011)]), (8, .cells [(84, .val T_api_IniPeer x49)]), (1011, .row T.str x51), (2000003, .ghost (.cp 3 0)), (2000004, .ghost (.fnv (.func fn_iniwrite_file_1) [] [3000000])), (2000005, .ghost (.fnv (.func fn_iniwrite_file_2) [] [])), (2000006, .ghost (.fnv (.func fn_iniwrite_file_3) [] [])), (2000008, .ghost (.cp 8 0)), (2000043, .ghost (.val (T.sl T_api_IniPeer) x41)), (2000044, .ghost (.val (T.int .i64) x42)), (2000045, .ghost (.val (T.int .i64) s43.1)), (2100003, .ghost (.cp 3 0)), (2100008, .ghost (.own 1011)), (2100010, .ghost (.val T.str x55)), (3000000, .keep (.cp 3 0))]⟩)) rfl 2100000 (fun p56 => ⟨[(12, .val T.str p56), (3, .cp 3 0), (8, .own 1011), (10, .val T.str x55)], [(3, .cells [(1, .own 1011)]), (8, .cells [(84, .val T_api_IniPeer x49)]), (1011, .row T.str x51), (2000003, .ghost (.cp 3 0)), (2000004, .ghost (.fnv (.func fn_iniwrite_file_1) [] [3000000])), (2000005, .ghost (.fnv (.func fn_iniwrite_file_2) [] [])), (2000006, .ghost (.fnv (.func fn_iniwrite_file_3) [] [])), (2000008, .ghost (.cp 8 0)), (2000043, .ghost (.val (T.sl T_api_IniPeer) x41)), (2000044, .ghost (.val (T.int .i64) x42)), (2000045, .ghost (.val (T.int .i64) s43.1)), (3000000, .keep (.cp 3 0))]⟩) (fun _ => .cons (h_ldCr (o_t rfl) rfl rfl rfl) (o_t rfl) trivial (.nil)) f_iniwrite_file_3_1 rfl rfl rfl (c_callv (o_t rfl) rfl) (.cons (s_k rfl) <| .nil) ⟨⟨rfl, rfl⟩, ⟨⟨rfl, rfl⟩, ⟨⟨rfl, rfl⟩, trivial⟩⟩⟩ rfl (
 Sim.seqI <| Sim.op1 (h_mv o_s) <|
 Sim.doneS <| Sim.seqI <| Sim.opn (h_ldC (t := (T.arr 32 T.u8)) (u := (T.arr 32 T.u8)) (o_t rfl) rfl rfl (Fld.id _) rfl rfl) fun x57 =>
 Sim.op (h_call1 sp_keys_Text (.one (o_t rfl))) fun x58 =>
 Sim.op1 (h_mv (o_t rfl)) <|
 Sim.doneS <| Sim.retIn x58 (.cons (rg_t rfl) <| .nil) ⟨⟨⟨rfl, trivial⟩, trivial⟩, ⟨⟨rfl, ⟨trivial, trivial⟩⟩, ⟨⟨rfl, ⟨trivial, trivial⟩⟩, ⟨⟨rfl, trivial⟩, ⟨⟨rfl, trivial⟩, ⟨⟨rfl, ⟨trivial, trivial⟩⟩, ⟨⟨rfl, trivial⟩, ⟨⟨rfl, trivial⟩, ⟨⟨rfl, trivial⟩, ⟨⟨rfl, trivial⟩, ⟨⟨rfl, trivial⟩, ⟨⟨rfl, trivial⟩, ⟨⟨rfl, trivial⟩, ⟨⟨rfl, trivial⟩, ⟨⟨rfl, trivial⟩, ⟨⟨rfl, trivial⟩, trivial⟩⟩⟩⟩⟩⟩⟩⟩⟩⟩⟩⟩⟩⟩⟩⟩) (fun p56 => BackOk.some' ⟨⟨rfl, ⟨trivial, trivial⟩⟩, ⟨⟨rfl, ⟨trivial, trivial⟩⟩, ⟨⟨rfl, trivial⟩, ⟨⟨rfl, trivial⟩, ⟨⟨rfl, ⟨trivial, trivial⟩⟩, ⟨⟨rfl, trivial⟩, ⟨⟨rfl, trivial⟩, ⟨⟨rfl, trivial⟩, ⟨⟨rfl, trivial⟩, ⟨⟨rfl, trivial⟩, ⟨⟨rfl, trivial⟩, ⟨⟨rfl, trivial⟩, trivial⟩⟩⟩⟩⟩⟩⟩⟩⟩⟩⟩⟩ rfl (.one rfl) trivial ⟨⟨rfl, trivial⟩, ⟨⟨rfl, trivial⟩, ⟨⟨rfl, trivial⟩, trivial⟩⟩⟩) fun p56 =>
 SimD.op rfl (h_sadd (o_t rfl) (o_t rfl)) fun x59 =>
 SimD.op rfl (h_bll (t := T.str) (n := 1) rfl rfl (.cons rfl (o_t rfl) <| .nil _)) fun x60 =>
 SimD.opM rfl (fun _ => .nil) (M_app rfl (o_t rfl) rfl (n_sl (o_t rfl))) fun x61 =>
 SimD.opM rfl (fun _ => .nil) (M_stR rfl rfl (o_t rfl) (o_t rfl) rfl rfl) fun _ =>
 SimD.done <| Sim.finIn x61 (.nil) ⟨trivial, ⟨⟨rfl, ⟨trivial, trivial⟩⟩, ⟨⟨rfl, ⟨trivial, trivial⟩⟩, ⟨⟨rfl, trivial⟩, ⟨⟨rfl, trivial⟩, ⟨⟨rfl, ⟨trivial, trivial⟩⟩, ⟨⟨rfl, trivial⟩, ⟨⟨rfl, trivial⟩, ⟨⟨rfl, trivial⟩, ⟨⟨rfl, trivial⟩, ⟨⟨rfl, trivial⟩, ⟨⟨rfl, trivial⟩, ⟨⟨rfl, trivial⟩, trivial⟩⟩⟩⟩⟩⟩⟩⟩⟩⟩⟩⟩⟩) (fun p54 => BackOk.some' ⟨⟨rfl, ⟨trivial, trivial⟩⟩, ⟨⟨rfl, ⟨trivial, trivial⟩⟩, ⟨⟨rfl, trivial⟩, ⟨⟨rfl, trivial⟩, trivial⟩⟩⟩⟩ rfl .none trivial ⟨⟨rfl, trivial⟩, ⟨⟨rfl, ⟨trivial, trivial⟩⟩, ⟨⟨rfl, trivial⟩, ⟨⟨rfl, trivial⟩, ⟨⟨rfl, trivial⟩, ⟨⟨rfl, trivial⟩, ⟨⟨rfl, trivial⟩, ⟨⟨rfl, trivial⟩, trivial⟩⟩⟩⟩⟩⟩⟩⟩) (.one fun p54 =>
 Sim.doneS <| Sim.seqI <| Sim.regd 2 <| SimD.op1 rfl (h_mv (o_t rfl)) <|
 SimD.op1 rfl (h_faC (o_t rfl)) <|
 SimD.opn rfl (h_ldC (t := T_api_IniPeer) (u := (T.arr 32 T.u8)) (o_t rfl) rfl rfl F_api_IniPeer_Psk rfl rfl) fun x62 =>
 SimD.op rfl (h_call1 sp_keys_Zero (.one (o_t rfl))) fun x63 =>
 SimD.op rfl (h_not (o_t rfl)) fun x64 =>
 SimD.op1 rfl (h_mv (o_t rfl)) <|
 SimD.op1 rfl (h_faC (o_t rfl)) <|
 SimD.opn rfl (h_ldC (t := T_api_IniPeer) (u := (T.arr 32 T.u8)) (o_t rfl) rfl rfl F_api_IniPeer_Psk rfl rfl) fun x65 =>
 SimD.inl (τ := Unit) (φs := [.val (T.arr 32 T.u8) x65]) (n := 1) (L := [(3, .cp 3 0), (4, .fnv (.func fn_iniwrite_file_1) [] [3000000]), (5, .fnv (.func fn_iniwrite_file_2) [] []), (6, .fnv (.func fn_iniwrite_file_3) [] []), (8, .cp 8 0), (43, .val (T.sl T_api_IniPeer) x41), (44, .val (T.int .i64) x42), (45, .val (T.int .i64) s43.1), (58, .fnv (.func fn_iniwrite_file_1) [] [3000000]), (62, .val T.b x64)]) (Γr := (fun p66 => ⟨[(0, .fnv (.func fn_iniwrite_file_3_1) [] [3000005])], [(1, .cells [(32, .val (T.arr 32 T.u8) x65)]), (3, .cells [(1, .own 1011)]), (8, .cells [(84, .val T_api_IniPeer x49)]), (1011, .row T.str p54), (2000003, .ghost (.cp 3 0)), (2000004, .ghost (.fnv (.func fn_iniwrite_file_1) [] [3000000])), (2000005, .ghost (.fnv (.func fn_iniwrite_file_2) [] [])), (2000006, .ghost (.fnv (.func fn_iniwrite_file_3) [] [])), (2000008, .ghost (.cp 8 0)), (2000043, .ghost (.val (T.sl T_api_IniPeer) x41)), (2000044, .ghost (.val (T.int .i64) x42)), (2000045, .ghost (.val (T.int .i64) s43.1)), (2000058, .ghost (.fnv (.func fn_iniwrite_file_1) [] [3000000])), (2000062, .ghost (.val T.b x64)), (3000000, .keep (.cp 3 0)), (3000005, .keep (.cp 1 0))]⟩)) rfl 2000000 (fun p66 => ⟨[(66, .fnv (.func fn_iniwrite_file_3_1) [] [3000005]), (3, .cp 3 0), (4, .fnv (.func fn_iniwrite_file_1) [] [3000000]), (5, .fnv (.func fn_iniwrite_file_2) [] []), (6, .fnv (.func fn_iniwrite_file_3) [] []), (8, .cp 8 0), (43, .val (T.sl T_api_IniPeer) x41), (44, .val (T.int .i64) x42), (45, .val (T.int .i64) s43.1), (58, .fnv (.func fn_iniwrite_file_1) [] [3000000]), (62, .val T.b x64)], [(1, .cells [(32, .val (T.arr 32 T.u8) x65)]), (3, .cells [(1, .own 1011)]), (8, .cells [(84, .val T_api_IniPeer x49)]), (1011, .row T.str p54), (3000000, .keep (.cp 3 0)), (3000005, .keep (.cp 1 0))]⟩) (fun _ => .nil) f_iniwrite_file_3 rfl rfl rfl (c_callv (o_t rfl) rfl) (.cons (s_o (o_t rfl)) <| .nil) ⟨⟨rfl, rfl⟩, ⟨⟨rfl, rfl⟩, ⟨⟨rfl, rfl⟩, ⟨⟨rfl, rfl⟩, ⟨⟨rfl, rfl⟩, ⟨⟨rfl, rfl⟩, ⟨⟨rfl, rfl⟩, ⟨⟨rfl, rfl⟩, ⟨⟨rfl, rfl⟩, ⟨⟨rfl, rfl⟩, trivial⟩⟩⟩⟩⟩⟩⟩⟩⟩⟩ rfl (
 Sim.seqI <| Sim.opM (M_box (t := (T.arr 32 T.u8)) 1 rfl rfl (o_t rfl)) fun _ =>
 Sim.op1 (h_mv (o_con rfl rfl)) <|
 Sim.doneS <| Sim.seqI <| Sim.opN (M_mkf (φs := []) (ψs := [.cp 1 0]) 3000005 (.nil) (.cons (o_t rfl) <| .nil) rfl ⟨rfl, trivial⟩ (js := []) (ks := [3000005]) rfl rfl) <|
 Sim.op1 (h_mv (o_t rfl)) <|
 Sim.doneS <| Sim.retIn () (.cons (rg_t rfl) <| .nil) ⟨⟨⟨rfl, ⟨trivial, trivial⟩⟩, trivial⟩, ⟨⟨rfl, ⟨trivial, trivial⟩⟩, ⟨⟨rfl, ⟨trivial, trivial⟩⟩, ⟨⟨rfl, ⟨trivial, trivial⟩⟩, ⟨⟨rfl, trivial⟩, ⟨⟨rfl, trivial⟩, ⟨⟨rfl, ⟨trivial, trivial⟩⟩, ⟨⟨rfl, trivial⟩, ⟨⟨rfl, trivial⟩, ⟨⟨rfl, trivial⟩, ⟨⟨rfl, trivial⟩, ⟨⟨rfl, trivial⟩, ⟨⟨rfl, trivial⟩, ⟨⟨rfl, ⟨trivial, trivial⟩⟩, ⟨⟨rfl, trivial⟩, ⟨⟨rfl, trivial⟩, ⟨⟨rfl, trivial⟩, trivial⟩⟩⟩⟩⟩⟩⟩⟩⟩⟩⟩⟩⟩⟩⟩⟩⟩) (fun p66 => BackOk.some' ⟨⟨rfl, ⟨trivial, trivial⟩⟩, ⟨⟨rfl, ⟨trivial, trivial⟩⟩, ⟨⟨rfl, ⟨trivial, trivial⟩⟩, ⟨⟨rfl, trivial⟩, ⟨⟨rfl, trivial⟩, ⟨⟨rfl, trivial⟩, trivial⟩⟩⟩⟩⟩⟩ rfl (.one rfl) ⟨trivial, trivial⟩ ⟨⟨rfl, trivial⟩, ⟨⟨rfl, ⟨trivial, trivial⟩⟩, ⟨⟨rfl, trivial⟩, ⟨⟨rfl, trivial⟩, ⟨⟨rfl, trivial⟩, ⟨⟨rfl, trivial⟩, ⟨⟨rfl, trivial⟩, ⟨⟨rfl, trivial⟩, ⟨⟨rfl, ⟨trivial, trivial⟩⟩, ⟨⟨rfl, trivial⟩, trivial⟩⟩⟩⟩⟩⟩⟩⟩⟩⟩) fun p66 =>
 SimD.inl (τ := (GS Str)) (φs := [.val T.b x64, .val T.str [80, 114, 101, 115, 104, 97, 114, 101, 100, 75, 101, 121], .fnv (.func fn_iniwrite_file_3_1) [] [3000005], .cp 3 0]) (n := 0) (L := [(3, .cp 3 0), (4, .fnv (.func fn_iniwrite_file_1) [] [3000000]), (5, .fnv (.func fn_iniwrite_file_2) [] []), (6, .fnv (.func fn_iniwrite_file_3) [] []), (8, .cp 8 0), (43, .val (T.sl T_api_IniPeer) x41), (44, .val (T.int .i64) x42), (45, .val (T.int .i64) s43.1)]) (Γr := (fun p67 => ⟨[], [(3, .cells [(1, .own 1011)]), (8, .cells [(84, .val T_api_IniPeer x49)]), (1011, .row T.str p67), (2000003, .ghost (.cp 3 0)), (2000004, .ghost (.fnv (.func fn_iniwrite_file_1) [] [3000000])), (2000005, .ghost (.fnv (.func fn_iniwrite_file_2) [] [])), (2000006, .ghost (.fnv (.func fn_iniwrite_file_3) [] [])), (2000008, .ghost (.cp 8 0)), (2000043, .ghost (.val (T.sl T_api_IniPeer) x41)), (2000044, .ghost (.val (T.int .i64) x42)), (2000045, .ghost (.val (T.int .i64) s43.1)), (3000000, .keep (.cp 3 0))]⟩)) rfl 2000000 (fun p67 => ⟨[(67, .tup []), (3, .cp 3 0), (4, .fnv (.func fn_iniwrite_file_1) [] [3000000]), (5, .fnv (.func fn_iniwrite_file_2) [] []), (6, .fnv (.func fn_iniwrite_file_3) [] []), (8, .cp 8 0), (43, .val (T.sl T_api_IniPeer) x41), (44, .val (T.int .i64) x42), (45, .val (T.int .i64) s43.1)], [(3, .cells [(1, .own 1011)]), (8, .cells [(84, .val T_api_IniPeer x49)]), (1011, .row T.str p67), (3000000, .keep (.cp 3 0))]⟩) (fun _ => .nil) f_iniwrite_file_1 rfl rfl rfl (c_callv (o_t rfl) rfl) (.cons (s_o (o_t rfl)) <| .cons (s_o o_s) <| .cons (s_o (o_t rfl)) <| .cons (s_k rfl) <| .nil) ⟨⟨rfl, rfl⟩, ⟨⟨rfl, rfl⟩, ⟨⟨rfl, rfl⟩, ⟨⟨rfl, rfl⟩, ⟨⟨rfl, rfl⟩, ⟨⟨rfl, rfl⟩, ⟨⟨rfl, rfl⟩, ⟨⟨rfl, rfl⟩, trivial⟩⟩⟩⟩⟩⟩⟩⟩ rfl (
 Sim.seqI <| Sim.op1 (h_mv (o_t rfl)) <|
 Sim.doneS <| Sim.cond (o_t rfl) (
 Sim.regd 3 <| SimD.late rfl (h_ldCr (o_t rfl) rfl rfl rfl) <|
 SimD.op1 rfl (h_mv (o_t rfl)) <|
 SimD.op rfl (h_sadd (o_t rfl) o_s) fun x68 =>
 SimD.op1 rfl (h_mv (o_t rfl)) <|
 SimD.inl (τ := Str) (φs := [.cp 1 0]) (n := 1) (L := [(3, .cp 3 0), (8, .own 1011), (10, .val T.str x68)]) (Γr := (fun p69 => ⟨[(0, .val T.str p69)], [(3, .cells [(1, .own 1011)]), (8, .cells [(84, .val T_api_IniPeer x49)]), (1011, .row T.str p54), (2000003, .ghost (.cp 3 0)), (2000004, .ghost (.fnv (.func fn_iniwrite_file_1) [] [3000000])), (2000005, .ghost (.fnv (.func fn_iniwrite_file_2) [] [])), (2000006, .ghost (.fnv (.func fn_iniwrite_file_3) [] [])), (2000008, .ghost (.cp 8 0)), (2000043, .ghost (.val (T.sl T_api_IniPeer) x41)), (2000044, .ghost (.val (T.int .i64) x42)), (2000045, .ghost (.val (T.int .i64) s43.1)), (2100003, .ghost (.cp 3 0)), (2100008, .ghost (.own 1011)), (2100010, .ghost (.val T.str x68)), (3000000, .keep (.cp 3 0))]⟩)) rfl 2100000 (fun p69 => ⟨[(12, .val T.str p69), (3, .cp 3 0), (8, .own 1011), (10, .val T.str x68)], [(3, .cells [(1, .own 1011)]), (8, .cells [(84, .val T_api_IniPeer x49)]), (1011, .row T.str p54), (2000003, .ghost (.cp 3 0)), (2000004, .ghost (.fnv (.func fn_iniwrite_file_1) [] [3000000])), (2000005, .ghost (.fnv (.func fn_iniwrite_file_2) [] [])), (2000006, .ghost (.fnv (.func fn_iniwrite_file_3) [] [])), (2000008, .ghost (.cp 8 0)), (2000043, .ghost (.val (T.sl T_api_IniPeer) x41)), (2000044, .ghost (.val (T.int .i64) x42)), (2000045, .ghost (.val (T.int .i64) s43.1)), (3000000, .keep (.cp 3 0))]⟩) (fun _ => .cons (h_ldCr (o_t rfl) rfl rfl rfl) (o_t rfl) trivial (.nil)) f_iniwrite_file_3_1 rfl rfl rfl (c_callv (o_t rfl) rfl) (.cons (s_k rfl) <| .nil) ⟨⟨rfl, rfl⟩, ⟨⟨rfl, rfl⟩, ⟨⟨rfl, rfl⟩, trivial⟩⟩⟩ rfl (
 Sim.seqI <| Sim.op1 (h_mv o_s) <|
 Sim.doneS <| Sim.seqI <| Sim.opn (h_ldC (t := (T.arr 32 T.u8)) (u := (T.arr 32 T.u8)) (o_t rfl) rfl rfl (Fld.id _) rfl rfl) fun x70 =>
 Sim.op (h_call1 sp_keys_Text (.one (o_t rfl))) fun x71 =>
 Sim.op1 (h_mv (o_t rfl)) <|
 Sim.doneS <| Sim.retIn x71 (.cons (rg_t rfl) <| .nil) ⟨⟨⟨rfl, trivial⟩, trivial⟩, ⟨⟨rfl, ⟨trivial, trivial⟩⟩, ⟨⟨rfl, ⟨trivial, trivial⟩⟩, ⟨⟨rfl, trivial⟩, ⟨⟨rfl, trivial⟩, ⟨⟨rfl, ⟨trivial, trivial⟩⟩, ⟨⟨rfl, trivial⟩, ⟨⟨rfl, trivial⟩, ⟨⟨rfl, trivial⟩, ⟨⟨rfl, trivial⟩, ⟨⟨rfl, trivial⟩, ⟨⟨rfl, trivial⟩, ⟨⟨rfl, trivial⟩, ⟨⟨rfl, trivial⟩, ⟨⟨rfl, trivial⟩, ⟨⟨rfl, trivial⟩, trivial⟩⟩⟩⟩⟩⟩⟩⟩⟩⟩⟩⟩⟩⟩⟩⟩) (fun p69 => BackOk.some' ⟨⟨rfl, ⟨trivial, trivial⟩⟩, ⟨⟨rfl, ⟨trivial, trivial⟩⟩, ⟨⟨rfl, trivial⟩, ⟨⟨rfl, trivial⟩, ⟨⟨rfl, ⟨trivial, trivial⟩⟩, ⟨⟨rfl, trivial⟩, ⟨⟨rfl, trivial⟩, ⟨⟨rfl, trivial⟩, ⟨⟨rfl, trivial⟩, ⟨⟨rfl, trivial⟩, ⟨⟨rfl, trivial⟩, ⟨⟨rfl, trivial⟩, trivial⟩⟩⟩⟩⟩⟩⟩⟩⟩⟩⟩⟩ rfl (.one rfl) trivial ⟨⟨rfl, trivial⟩, ⟨⟨rfl, trivial⟩, ⟨⟨rfl, trivial⟩, trivial⟩⟩⟩) fun p69 =>
 SimD.op rfl (h_sadd (o_t rfl) (o_t rfl)) fun x72 =>
 SimD.op rfl (h_bll (t := T.str) (n := 1) rfl rfl (.cons rfl (o_t rfl) <| .nil _)) fun x73 =>
 SimD.opM rfl (fun _ => .nil) (M_app rfl (o_t rfl) rfl (n_sl (o_t rfl))) fun x74 =>
 SimD.opM rfl (fun _ => .nil) (M_stR rfl rfl (o_t rfl) (o_t rfl) rfl rfl) fun _ =>
 SimD.done <| Sim.finIn x74 (.nil) ⟨trivial, ⟨⟨rfl, ⟨trivial, trivial⟩⟩, ⟨⟨rfl, ⟨trivial, trivial⟩⟩, ⟨⟨rfl, trivial⟩, ⟨⟨rfl, trivial⟩, ⟨⟨rfl, ⟨trivial, trivial⟩⟩, ⟨⟨rfl, trivial⟩, ⟨⟨rfl, trivial⟩, ⟨⟨rfl, trivial⟩, ⟨⟨rfl, trivial⟩, ⟨⟨rfl, trivial⟩, ⟨⟨rfl, trivial⟩, ⟨⟨rfl, trivial⟩, trivial⟩⟩⟩⟩⟩⟩⟩⟩⟩⟩⟩⟩⟩) (
 Sim.skip <| Sim.finIn p54 (.nil) ⟨trivial, ⟨⟨rfl, ⟨trivial, trivial⟩⟩, ⟨⟨rfl, ⟨trivial, trivial⟩⟩, ⟨⟨rfl, trivial⟩, ⟨⟨rfl, trivial⟩, ⟨⟨rfl, ⟨trivial, trivial⟩⟩, ⟨⟨rfl, trivial⟩, ⟨⟨rfl, trivial⟩, ⟨⟨rfl, trivial⟩, ⟨⟨rfl, trivial⟩, ⟨⟨rfl, trivial⟩, ⟨⟨rfl, trivial⟩, ⟨⟨rfl, trivial⟩, trivial⟩⟩⟩⟩⟩⟩⟩⟩⟩⟩⟩⟩⟩)) (fun p67 => BackOk.some' ⟨⟨rfl, ⟨trivial, trivial⟩⟩, ⟨⟨rfl, ⟨trivial, trivial⟩⟩, ⟨⟨rfl, trivial⟩, ⟨⟨rfl, trivial⟩, trivial⟩⟩⟩⟩ rfl .none trivial ⟨⟨rfl, trivial⟩, ⟨⟨rfl, ⟨trivial, trivial⟩⟩, ⟨⟨rfl, trivial⟩, ⟨⟨rfl, trivial⟩, ⟨⟨rfl, trivial⟩, ⟨⟨rfl, trivial⟩, ⟨⟨rfl, trivial⟩, ⟨⟨rfl, trivial⟩, trivial⟩⟩⟩⟩⟩⟩⟩⟩) fun p67 =>
 SimD.done <| Sim.doneS <| Sim.seqI <| Sim.op1 (h_mv (o_t rfl)) <|
 Sim.op1 (h_faC (o_t rfl)) <|
 Sim.opn (h_ldC (t := T_api_IniPeer) (u := T_api_Endpoint) (o_t rfl) rfl rfl F_api_IniPeer_End rfl rfl) fun x75 =>
 Sim.op (h_call1 sp_hostport_None (.one (o_t rfl))) fun x76 =>
 Sim.op (h_not (o_t rfl)) fun x77 =>
 Sim.opN (M_mkf (φs := []) (ψs := [.cp 8 0]) 3000006 (.nil) (.cons (o_t rfl) <| .nil) rfl ⟨rfl, trivial⟩ (js := []) (ks := [3000006]) rfl rfl) <|
 Sim.inl (τ := (GS Str)) (φs := [.val T.b x77, .val T.str [69, 110, 100, 112, 111, 105, 110, 116], .fnv (.func fn_iniwrite_file_4) [] [3000006], .cp 3 0]) (n := 0) (L := [(3, .cp 3 0), (4, .fnv (.func fn_iniwrite_file_1) [] [3000000]), (5, .fnv (.func fn_iniwrite_file_2) [] []), (6, .fnv (.func fn_iniwrite_file_3) [] []), (8, .cp 8 0), (43, .val (T.sl T_api_IniPeer) x41), (44, .val (T.int .i64) x42), (45, .val (T.int .i64) s43.1)]) (Γr := (fun p78 => ⟨[], [(3, .cells [(1, .own 1011)]), (8, .cells [(84, .val T_api_IniPeer x49)]), (1011, .row T.str p78), (2000003, .ghost (.cp 3 0)), (2000004, .ghost (.fnv (.func fn_iniwrite_file_1) [] [3000000])), (2000005, .ghost (.fnv (.func fn_iniwrite_file_2) [] [])), (2000006, .ghost (.fnv (.func fn_iniwrite_file_3) [] [])), (2000008, .ghost (.cp 8 0)), (2000043, .ghost (.val (T.sl T_api_IniPeer) x41)), (2000044, .ghost (.val (T.int .i64) x42)), (2000045, .ghost (.val (T.int .i64) s43.1)), (3000000, .keep (.cp 3 0))]⟩)) 2000000 (fun p78 => ⟨[(74, .tup []), (3, .cp 3 0), (4, .fnv (.func fn_iniwrite_file_1) [] [3000000]), (5, .fnv (.func fn_iniwrite_file_2) [] []), (6, .fnv (.func fn_iniwrite_file_3) [] []), (8, .cp 8 0), (43, .val (T.sl T_api_IniPeer) x41), (44, .val (T.int .i64) x42), (45, .val (T.int .i64) s43.1)], [(3, .cells [(1, .own 1011)]), (8, .cells [(84, .val T_api_IniPeer x49)]), (1011, .row T.str p78), (3000000, .keep (.cp 3 0))]⟩) f_iniwrite_file_1 rfl rfl rfl (c_callv (o_t rfl) rfl) (.cons (s_o (o_t rfl)) <| .cons (s_o o_s) <| .cons (s_o (o_t rfl)) <| .cons (s_k rfl) <| .nil) ⟨⟨rfl, rfl⟩, ⟨⟨rfl, rfl⟩, ⟨⟨rfl, rfl⟩, ⟨⟨rfl, rfl⟩, ⟨⟨rfl, rfl⟩, ⟨⟨rfl, rfl⟩, ⟨⟨rfl, rfl⟩, ⟨⟨rfl, rfl⟩, trivial⟩⟩⟩⟩⟩⟩⟩⟩ rfl (
 Sim.seqI <| Sim.op1 (h_mv (o_t rfl)) <|
 Sim.doneS <| Sim.cond (o_t rfl) (
 Sim.regd 3 <| SimD.late rfl (h_ldCr (o_t rfl) rfl rfl rfl) <|
 SimD.op1 rfl (h_mv (o_t rfl)) <|
 SimD.op rfl (h_sadd (o_t rfl) o_s) fun x79 =>
 SimD.op1 rfl (h_mv (o_t rfl)) <|
 SimD.inl (τ := Str) (φs := [.cp 8 0]) (n := 1) (L := [(3, .cp 3 0), (8, .own 1011), (10, .val T.str x79)]) (Γr := (fun p80 => ⟨[(0, .val T.str p80)], [(3, .cells [(1, .own 1011)]), (8, .cells [(84, .val T_api_IniPeer x49)]), (1011, .row T.str p67), (2000003, .ghost (.cp 3 0)), (2000004, .ghost (.fnv (.func fn_iniwrite_file_1) [] [3000000])), (2000005, .ghost (.fnv (.func fn_iniwrite_file_2) [] [])), (2000006, .ghost (.fnv (.func fn_iniwrite_file_3) [] [])), (2000008, .ghost (.cp 8 0)), (2000043, .ghost (.val (T.sl T_api_IniPeer) x41)), (2000044, .ghost (.val (T.int .i64) x42)), (2000045, .ghost (.val (T.int .i64) s43.1)), (2100003, .ghost (.cp 3 0)), (2100008, .ghost (.own 1011)), (2100010, .ghost (.val T.str x79)), (3000000, .keep (.cp 3 0))]⟩)) rfl 2100000 (fun p80 => ⟨[(12, .val T.str p80), (3, .cp 3 0), (8, .own 1011), (10, .val T.str x79)], [(3, .cells [(1, .own 1011)]), (8, .cells [(84, .val T_api_IniPeer x49)]), (1011, .row T.str p67), (2000003, .ghost (.cp 3 0)), (2000004, .ghost (.fnv (.func fn_iniwrite_file_1) [] [3000000])), (2000005, .ghost (.fnv (.func fn_iniwrite_file_2) [] [])), (2000006, .ghost (.fnv (.func fn_iniwrite_file_3) [] [])), (2000008, .ghost (.cp 8 0)), (2000043, .ghost (.val (T.sl T_api_IniPeer) x41)), (2000044, .ghost (.val (T.int .i64) x42)), (2000045, .ghost (.val (T.int .i64) s43.1)), (3000000, .keep (.cp 3 0))]⟩) (fun _ => .cons (h_ldCr (o_t rfl) rfl rfl rfl) (o_t rfl) trivial (.nil)) f_iniwrite_file_4 rfl rfl rfl (c_callv (o_t rfl) rfl) (.cons (s_k rfl) <| .nil) ⟨⟨rfl, rfl⟩, ⟨⟨rfl, rfl⟩, ⟨⟨rfl, rfl⟩, trivial⟩⟩⟩ rfl (
 Sim.seqI <| Sim.op1 (h_mv o_s) <|
 Sim.doneS <| Sim.seqI <| Sim.op1 (h_faC (o_t rfl)) <|
 Sim.opn (h_ldC (t := T_api_IniPeer) (u := T_api_Endpoint) (o_t rfl) rfl rfl F_api_IniPeer_End rfl rfl) fun x81 =>
 Sim.op (h_call1 sp_hostport_Text (.one (o_t rfl))) fun x82 =>
 Sim.op1 (h_mv (o_t rfl)) <|
 Sim.doneS <| Sim.retIn x82 (.cons (rg_t rfl) <| .nil) ⟨⟨⟨rfl, trivial⟩, trivial⟩, ⟨⟨rfl, ⟨trivial, trivial⟩⟩, ⟨⟨rfl, ⟨trivial, trivial⟩⟩, ⟨⟨rfl, trivial⟩, ⟨⟨rfl, trivial⟩, ⟨⟨rfl, ⟨trivial, trivial⟩⟩, ⟨⟨rfl, trivial⟩, ⟨⟨rfl, trivial⟩, ⟨⟨rfl, trivial⟩, ⟨⟨rfl, trivial⟩, ⟨⟨rfl, trivial⟩, ⟨⟨rfl, trivial⟩, ⟨⟨rfl, trivial⟩, ⟨⟨rfl, trivial⟩, ⟨⟨rfl, trivial⟩, ⟨⟨rfl, trivial⟩, trivial⟩⟩⟩⟩⟩⟩⟩⟩⟩⟩⟩⟩⟩⟩⟩⟩) (fun p80 => BackOk.some' ⟨⟨rfl, ⟨trivial, trivial⟩⟩, ⟨⟨rfl, ⟨trivial, trivial⟩⟩, ⟨⟨rfl, trivial⟩, ⟨⟨rfl, trivial⟩, ⟨⟨rfl, ⟨trivial, trivial⟩⟩, ⟨⟨rfl, trivial⟩, ⟨⟨rfl, trivial⟩, ⟨⟨rfl, trivial⟩, ⟨⟨rfl, trivial⟩, ⟨⟨rfl, trivial⟩, ⟨⟨rfl, trivial⟩, ⟨⟨rfl, trivial⟩, trivial⟩⟩⟩⟩⟩⟩⟩⟩⟩⟩⟩⟩ rfl (.one rfl) trivial ⟨⟨rfl, trivial⟩, ⟨⟨rfl, trivial⟩, ⟨⟨rfl, trivial⟩, trivial⟩⟩⟩) fun p80 =>
 SimD.op rfl (h_sadd (o_t rfl) (o_t rfl)) fun x83 =>
 SimD.op rfl (h_bll (t := T.str) (n := 1) rfl rfl (.cons rfl (o_t rfl) <| .nil _)) fun x84 =>
 SimD.opM rfl (fun _ => .nil) (M_app rfl (o_t rfl) rfl (n_sl (o_t rfl))) fun x85 =>
 SimD.opM rfl (fun _ => .nil) (M_stR rfl rfl (o_t rfl) (o_t rfl) rfl rfl) fun _ =>
 SimD.done <| Sim.finIn x85 (.nil) ⟨trivial, ⟨⟨rfl, ⟨trivial, trivial⟩⟩, ⟨⟨rfl, ⟨trivial, trivial⟩⟩, ⟨⟨rfl, trivial⟩, ⟨⟨rfl, trivial⟩, ⟨⟨rfl, ⟨trivial, trivial⟩⟩, ⟨⟨rfl, trivial⟩, ⟨⟨rfl, trivial⟩, ⟨⟨rfl, trivial⟩, ⟨⟨rfl, trivial⟩, ⟨⟨rfl, trivial⟩, ⟨⟨rfl, trivial⟩, ⟨⟨rfl, trivial⟩, trivial⟩⟩⟩⟩⟩⟩⟩⟩⟩⟩⟩⟩⟩) (
 Sim.skip <| Sim.finIn p67 (.nil) ⟨trivial, ⟨⟨rfl, ⟨trivial, trivial⟩⟩, ⟨⟨rfl, ⟨trivial, trivial⟩⟩, ⟨⟨rfl, trivial⟩, ⟨⟨rfl, trivial⟩, ⟨⟨rfl, ⟨trivial, trivial⟩⟩, ⟨⟨rfl, trivial⟩, ⟨⟨rfl, trivial⟩, ⟨⟨rfl, trivial⟩, ⟨⟨rfl, trivial⟩, ⟨⟨rfl, trivial⟩, ⟨⟨rfl, trivial⟩, ⟨⟨rfl, trivial⟩, trivial⟩⟩⟩⟩⟩⟩⟩⟩⟩⟩⟩⟩⟩)) (fun p78 => BackOk.some' ⟨⟨rfl, ⟨trivial, trivial⟩⟩, ⟨⟨rfl, ⟨trivial, trivial⟩⟩, ⟨⟨rfl, trivial⟩, ⟨⟨rfl, trivial⟩, trivial⟩⟩⟩⟩ rfl .none trivial ⟨⟨rfl, trivial⟩, ⟨⟨rfl, ⟨trivial, trivial⟩⟩, ⟨⟨rfl, trivial⟩, ⟨⟨rfl, trivial⟩, ⟨⟨rfl, trivial⟩, ⟨⟨rfl, trivial⟩, ⟨⟨rfl, trivial⟩, ⟨⟨rfl, trivial⟩, trivial⟩⟩⟩⟩⟩⟩⟩⟩) (.one fun p78 =>
 Sim.doneS <| Sim.seqI <| Sim.regd 2 <| SimD.op1 rfl (h_mv (o_t rfl)) <|
 SimD.op1 rfl (h_faC (o_t rfl)) <|
 SimD.late rfl (h_ldC (t := T_api_IniPeer) (u := (T.int .i64)) (o_t rfl) rfl rfl F_api_IniPeer_Keep rfl rfl) <|
 SimD.op rfl (h_cmp (I := (IT.int .i64)) rfl (o_t rfl) o_i) fun x86 =>
 SimD.op1 rfl (h_mv (o_t rfl)) <|
 SimD.op1 rfl (h_faC (o_t rfl)) <|
 SimD.opn rfl (h_ldC (t := T_api_IniPeer) (u := (T.int .i64)) (o_t rfl) rfl rfl F_api_IniPeer_Keep rfl rfl) fun x87 =>
 SimD.inl (τ := Unit) (φs := [.val (T.int .i64) x87]) (n := 1) (L := [(3, .cp 3 0), (4, .fnv (.func fn_iniwrite_file_1) [] [3000000]), (5, .fnv (.func fn_iniwrite_file_2) [] []), (6, .fnv (.func fn_iniwrite_file_3) [] []), (8, .cp 8 0), (43, .val (T.sl T_api_IniPeer) x41), (44, .val (T.int .i64) x42), (45, .val (T.int .i64) s43.1), (75, .fnv (.func fn_iniwrite_file_1) [] [3000000]), (76, .cp 8 82), (77, .val (T.int .i64) (F_api_IniPeer_Keep.get x49)), (78, .val T.b x86)]) (Γr := (fun p88 => ⟨[(0, .fnv (.func fn_iniwrite_file_2_1) [] [3000007])], [(1, .cells [(1, .val (T.int .i64) x87)]), (3, .cells [(1, .own 1011)]), (8, .cells [(84, .val T_api_IniPeer x49)]), (1011, .row T.str p78), (2000003, .ghost (.cp 3 0)), (2000004, .ghost (.fnv (.func fn_iniwrite_file_1) [] [3000000])), (2000005, .ghost (.fnv (.func fn_iniwrite_file_2) [] [])), (2000006, .ghost (.fnv (.func fn_iniwrite_file_3) [] [])), (2000008, .ghost (.cp 8 0)), (2000043, .ghost (.val (T.sl T_api_IniPeer) x41)), (2000044, .ghost (.val (T.int .i64) x42)), (2000045, .ghost (.val (T.int .i64) s43.1)), (2000075, .ghost (.fnv (.func fn_iniwrite_file_1) [] [3000000])), (2000076, .ghost (.cp 8 82)), (2000077, .ghost (.val (T.int .i64) (F_api_IniPeer_Keep.get x49))), (2000078, .ghost (.val T.b x86)), (3000000, .keep (.cp 3 0)), (3000007, .keep (.cp 1 0))]⟩)) rfl 2000000 (fun p88 => ⟨[(82, .fnv (.func fn_iniwrite_file_2_1) [] [3000007]), (3, .cp 3 0), (4, .fnv (.func fn_iniwrite_file_1) [] [3000000]), (5, .fnv (.func fn_iniwrite_file_2) [] []), (6, .fnv (.func fn_iniwrite_file_3) [] []), (8, .cp 8 0), (43, .val (T.sl T_api_IniPeer) x41), (44, .val (T.int .i64) x42), (45, .val (T.int .i64) s43.1), (75, .fnv (.func fn_iniwrite_file_1) [] [3000000]), (76, .cp 8 82), (77, .val (T.int .i64) (F_api_IniPeer_Keep.get x49)), (78, .val T.b x86)], [(1, .cells [(1, .val (T.int .i64) x87)]), (3, .cells [(1, .own 1011)]), (8, .cells [(84, .val T_api_IniPeer x49)]), (1011, .row T.str p78), (3000000, .keep (.cp 3 0)), (3000007, .keep (.cp 1 0))]⟩) (fun _ => .cons (h_ldC (t := T_api_IniPeer) (u := (T.int .i64)) (o_t rfl) rfl rfl F_api_IniPeer_Keep rfl rfl) (o_t rfl) uni_int (.nil)) f_iniwrite_file_2 rfl rfl rfl (c_callv (o_t rfl) rfl) (.cons (s_o (o_t rfl)) <| .nil) ⟨⟨rfl, rfl⟩, ⟨⟨rfl, rfl⟩, ⟨⟨rfl, rfl⟩, ⟨⟨rfl, rfl⟩, ⟨⟨rfl, rfl⟩, ⟨⟨rfl, rfl⟩, ⟨⟨rfl, rfl⟩, ⟨⟨rfl, rfl⟩, ⟨⟨rfl, rfl⟩, ⟨⟨rfl, rfl⟩, ⟨⟨rfl, rfl⟩, ⟨⟨rfl, rfl⟩, trivial⟩⟩⟩⟩⟩⟩⟩⟩⟩⟩⟩⟩ rfl (
 Sim.seqI <| Sim.opM (M_box (t := (T.int .i64)) 1 rfl rfl (o_t rfl)) fun _ =>
 Sim.op1 (h_mv (o_con rfl rfl)) <|
 Sim.doneS <| Sim.seqI <| Sim.opN (M_mkf (φs := []) (ψs := [.cp 1 0]) 3000007 (.nil) (.cons (o_t rfl) <| .nil) rfl ⟨rfl, trivial⟩ (js := []) (ks := [3000007]) rfl rfl) <|
 Sim.op1 (h_mv (o_t rfl)) <|
 Sim.doneS <| Sim.retIn () (.cons (rg_t rfl) <| .nil) ⟨⟨⟨rfl, ⟨trivial, trivial⟩⟩, trivial⟩, ⟨⟨rfl, ⟨trivial, trivial⟩⟩, ⟨⟨rfl, ⟨trivial, trivial⟩⟩, ⟨⟨rfl, ⟨trivial, trivial⟩⟩, ⟨⟨rfl, trivial⟩, ⟨⟨rfl, trivial⟩, ⟨⟨rfl, ⟨trivial, trivial⟩⟩, ⟨⟨rfl, trivial⟩, ⟨⟨rfl, trivial⟩, ⟨⟨rfl, trivial⟩, ⟨⟨rfl, trivial⟩, ⟨⟨rfl, trivial⟩, ⟨⟨rfl, trivial⟩, ⟨⟨rfl, ⟨trivial, trivial⟩⟩, ⟨⟨rfl, trivial⟩, ⟨⟨rfl, trivial⟩, ⟨⟨rfl, trivial⟩, ⟨⟨rfl, trivial⟩, ⟨⟨rfl, trivial⟩, trivial⟩⟩⟩⟩⟩⟩⟩⟩⟩⟩⟩⟩⟩⟩⟩⟩⟩⟩⟩) (fun p88 => BackOk.some' ⟨⟨rfl, ⟨trivial, trivial⟩⟩, ⟨⟨rfl, ⟨trivial, trivial⟩⟩, ⟨⟨rfl, ⟨trivial, trivial⟩⟩, ⟨⟨rfl, trivial⟩, ⟨⟨rfl, trivial⟩, ⟨⟨rfl, trivial⟩, trivial⟩⟩⟩⟩⟩⟩ rfl (.one rfl) ⟨trivial, trivial⟩ ⟨⟨rfl, trivial⟩, ⟨⟨rfl, ⟨trivial, trivial⟩⟩, ⟨⟨rfl, trivial⟩, ⟨⟨rfl, trivial⟩, ⟨⟨rfl, trivial⟩, ⟨⟨rfl, trivial⟩, ⟨⟨rfl, trivial⟩, ⟨⟨rfl, trivial⟩, ⟨⟨rfl, ⟨trivial, trivial⟩⟩, ⟨⟨rfl, trivial⟩, ⟨⟨rfl, trivial⟩, ⟨⟨rfl, trivial⟩, trivial⟩⟩⟩⟩⟩⟩⟩⟩⟩⟩⟩⟩) fun p88 =>
 SimD.inl (τ := (GS Str)) (φs := [.val T.b x86, .val T.str [80, 101, 114, 115, 105, 115, 116, 101, 110, 116, 75, 101, 101, 112, 97, 108, 105, 118, 101], .fnv (.func fn_iniwrite_file_2_1) [] [3000007], .cp 3 0]) (n := 0) (L := [(3, .cp 3 0), (4, .fnv (.func fn_iniwrite_file_1) [] [3000000]), (5, .fnv (.func fn_iniwrite_file_2) [] []), (6, .fnv (.func fn_iniwrite_file_3) [] []), (8, .cp 8 0), (43, .val (T.sl T_api_IniPeer) x41), (44, .val (T.int .i64) x42), (45, .val (T.int .i64) s43.1)]) (Γr := (fun p89 => ⟨[], [(3, .cells [(1, .own 1011)]), (8, .cells [(84, .val T_api_IniPeer x49)]), (1011, .row T.str p89), (2000003, .ghost (.cp 3 0)), (2000004, .ghost (.fnv (.func fn_iniwrite_file_1) [] [3000000])), (2000005, .ghost (.fnv (.func fn_iniwrite_file_2) [] [])), (2000006, .ghost (.fnv (.func fn_iniwrite_file_3) [] [])), (2000008, .ghost (.cp 8 0)), (2000043, .ghost (.val (T.sl T_api_IniPeer) x41)), (2000044, .ghost (.val (T.int .i64) x42)), (2000045, .ghost (.val (T.int .i64) s43.1)), (3000000, .keep (.cp 3 0))]⟩)) rfl 2000000 (fun p89 => ⟨[(83, .tup []), (3, .cp 3 0), (4, .fnv (.func fn_iniwrite_file_1) [] [3000000]), (5, .fnv (.func fn_iniwrite_file_2) [] []), (6, .fnv (.func fn_iniwrite_file_3) [] []), (8, .cp 8 0), (43, .val (T.sl T_api_IniPeer) x41), (44, .val (T.int .i64) x42), (45, .val (T.int .i64) s43.1)], [(3, .cells [(1, .own 1011)]), (8, .cells [(84, .val T_api_IniPeer x49)]), (1011, .row T.str p89), (3000000, .keep (.cp 3 0))]⟩) (fun _ => .nil) f_iniwrite_file_1 rfl rfl rfl (c_callv (o_t rfl) rfl) (.cons (s_o (o_t rfl)) <| .cons (s_o o_s) <| .cons (s_o (o_t rfl)) <| .cons (s_k rfl) <| .nil) ⟨⟨rfl, rfl⟩, ⟨⟨rfl, rfl⟩, ⟨⟨rfl, rfl⟩, ⟨⟨rfl, rfl⟩, ⟨⟨rfl, rfl⟩, ⟨⟨rfl, rfl⟩, ⟨⟨rfl, rfl⟩, ⟨⟨rfl, rfl⟩, trivial⟩⟩⟩⟩⟩⟩⟩⟩ rfl (
 Sim.seqI <| Sim.op1 (h_mv (o_t rfl)) <|
 Sim.doneS <| Sim.cond (o_t rfl) (
 Sim.regd 3 <| SimD.late rfl (h_ldCr (o_t rfl) rfl rfl rfl) <|
 SimD.op1 rfl (h_mv (o_t rfl)) <|
 SimD.op rfl (h_sadd (o_t rfl) o_s) fun x90 =>
 SimD.op1 rfl (h_mv (o_t rfl)) <|
 SimD.inl (τ := Str) (φs := [.cp 1 0]) (n := 1) (L := [(3, .cp 3 0), (8, .own 1011), (10, .val T.str x90)]) (Γr := (fun p91 => ⟨[(0, .val T.str p91)], [(3, .cells [(1, .own 1011)]), (8, .cells [(84, .val T_api_IniPeer x49)]), (1011, .row T.str p78), (2000003, .ghost (.cp 3 0)), (2000004, .ghost (.fnv (.func fn_iniwrite_file_1) [] [3000000])), (2000005, .ghost (.fnv (.func fn_iniwrite_file_2) [] [])), (2000006, .ghost (.fnv (.func fn_iniwrite_file_3) [] [])), (2000008, .ghost (.cp 8 0)), (2000043, .ghost (.val (T.sl T_api_IniPeer) x41)), (2000044, .ghost (.val (T.int .i64) x42)), (2000045, .ghost (.val (T.int .i64) s43.1)), (2100003, .ghost (.cp 3 0)), (2100008, .ghost (.own 1011)), (2100010, .ghost (.val T.str x90)), (3000000, .keep (.cp 3 0))]⟩)) rfl 2100000 (fun p91 => ⟨[(12, .val T.str p91), (3, .cp 3 0), (8, .own 1011), (10, .val T.str x90)], [(3, .cells [(1, .own 1011)]), (8, .cells [(84, .val T_api_IniPeer x49)]), (1011, .row T.str p78), (2000003, .ghost (.cp 3 0)), (2000004, .ghost (.fnv (.func fn_iniwrite_file_1) [] [3000000])), (2000005, .ghost (.fnv (.func fn_iniwrite_file_2) [] [])), (2000006, .ghost (.fnv (.func fn_iniwrite_file_3) [] [])), (2000008, .ghost (.cp 8 0)), (2000043, .ghost (.val (T.sl T_api_IniPeer) x41)), (2000044, .ghost (.val (T.int .i64) x42)), (2000045, .ghost (.val (T.int .i64) s43.1)), (3000000, .keep (.cp 3 0))]⟩) (fun _ => .cons (h_ldCr (o_t rfl) rfl rfl rfl) (o_t rfl) trivial (.nil)) f_iniwrite_file_2_1 rfl rfl rfl (c_callv (o_t rfl) rfl) (.cons (s_k rfl) <| .nil) ⟨⟨rfl, rfl⟩, ⟨⟨rfl, rfl⟩, ⟨⟨rfl, rfl⟩, trivial⟩⟩⟩ rfl (
 Sim.seqI <| Sim.op1 (h_mv o_s) <|
 Sim.doneS <| Sim.seqI <| Sim.opn (h_ldC (t := (T.int .i64)) (u := (T.int .i64)) (o_t rfl) rfl rfl (Fld.id _) rfl rfl) fun x92 =>
 Sim.op (h_cvi (I := (IT.int .i64)) (J := IT.u64) rfl (o_t rfl)) fun x93 =>
 Sim.op (h_call1 sp_decimal_Text (.one (o_t rfl))) fun x94 =>
 Sim.op1 (h_mv (o_t rfl)) <|
 Sim.doneS <| Sim.retIn x94 (.cons (rg_t rfl) <| .nil) ⟨⟨⟨rfl, trivial⟩, trivial⟩, ⟨⟨rfl, ⟨trivial, trivial⟩⟩, ⟨⟨rfl, ⟨trivial, trivial⟩⟩, ⟨⟨rfl, trivial⟩, ⟨⟨rfl, trivial⟩, ⟨⟨rfl, ⟨trivial, trivial⟩⟩, ⟨⟨rfl, trivial⟩, ⟨⟨rfl, trivial⟩, ⟨⟨rfl, trivial⟩, ⟨⟨rfl, trivial⟩, ⟨⟨rfl, trivial⟩, ⟨⟨rfl, trivial⟩, ⟨⟨rfl, trivial⟩, ⟨⟨rfl, trivial⟩, ⟨⟨rfl, trivial⟩, ⟨⟨rfl, trivial⟩, trivial⟩⟩⟩⟩⟩⟩⟩⟩⟩⟩⟩⟩⟩⟩⟩⟩) (fun p91 => BackOk.some' ⟨⟨rfl, ⟨trivial, trivial⟩⟩, ⟨⟨rfl, ⟨trivial, trivial⟩⟩, ⟨⟨rfl, trivial⟩, ⟨⟨rfl, trivial⟩, ⟨⟨rfl, ⟨trivial, trivial⟩⟩, ⟨⟨rfl, trivial⟩, ⟨⟨rfl, trivial⟩, ⟨⟨rfl, trivial⟩, ⟨⟨rfl, trivial⟩, ⟨⟨rfl, trivial⟩, ⟨⟨rfl, trivial⟩, ⟨⟨rfl, trivial⟩, trivial⟩⟩⟩⟩⟩⟩⟩⟩⟩⟩⟩⟩ rfl (.one rfl) trivial ⟨⟨rfl, trivial⟩, ⟨⟨rfl, trivial⟩, ⟨⟨rfl, trivial⟩, trivial⟩⟩⟩) fun p91 =>
 SimD.op rfl (h_sadd (o_t rfl) (o_t rfl)) fun x95 =>
 SimD.op rfl (h_bll (t := T.str) (n := 1) rfl rfl (.cons rfl (o_t rfl) <| .nil _)) fun x96 =>
 SimD.opM rfl (fun _ => .nil) (M_app rfl (o_t rfl) rfl (n_sl (o_t rfl))) fun x97 =>
 SimD.opM rfl (fun _ => .nil) (M_stR rfl rfl (o_t rfl) (o_t rfl) rfl rfl) fun _ =>
 SimD.done <| Sim.finIn x97 (.nil) ⟨trivial, ⟨⟨rfl, ⟨trivial, trivial⟩⟩, ⟨⟨rfl, ⟨trivial, trivial⟩⟩, ⟨⟨rfl, trivial⟩, ⟨⟨rfl, trivial⟩, ⟨⟨rfl, ⟨trivial, trivial⟩⟩, ⟨⟨rfl, trivial⟩, ⟨⟨rfl, trivial⟩, ⟨⟨rfl, trivial⟩, ⟨⟨rfl, trivial⟩, ⟨⟨rfl, trivial⟩, ⟨⟨rfl, trivial⟩, ⟨⟨rfl, trivial⟩, trivial⟩⟩⟩⟩⟩⟩⟩⟩⟩⟩⟩⟩⟩) (
 Sim.skip <| Sim.finIn p78 (.nil) ⟨trivial, ⟨⟨rfl, ⟨trivial, trivial⟩⟩, ⟨⟨rfl, ⟨trivial, trivial⟩⟩, ⟨⟨rfl, trivial⟩, ⟨⟨rfl, trivial⟩, ⟨⟨rfl, ⟨trivial, trivial⟩⟩, ⟨⟨rfl, trivial⟩, ⟨⟨rfl, trivial⟩, ⟨⟨rfl, trivial⟩, ⟨⟨rfl, trivial⟩, ⟨⟨rfl, trivial⟩, ⟨⟨rfl, trivial⟩, ⟨⟨rfl, trivial⟩, trivial⟩⟩⟩⟩⟩⟩⟩⟩⟩⟩⟩⟩⟩)) (fun p89 => BackOk.some' ⟨⟨rfl, ⟨trivial, trivial⟩⟩, ⟨⟨rfl, ⟨trivial, trivial⟩⟩, ⟨⟨rfl, trivial⟩, ⟨⟨rfl, trivial⟩, trivial⟩⟩⟩⟩ rfl .none trivial ⟨⟨rfl, trivial⟩, ⟨⟨rfl, ⟨trivial, trivial⟩⟩, ⟨⟨rfl, trivial⟩, ⟨⟨rfl, trivial⟩, ⟨⟨rfl, trivial⟩, ⟨⟨rfl, trivial⟩, ⟨⟨rfl, trivial⟩, ⟨⟨rfl, trivial⟩, trivial⟩⟩⟩⟩⟩⟩⟩⟩) fun p89 =>
 SimD.done <| Sim.doneS <| Sim.seqI <| Sim.op1 (h_faC (o_t rfl)) <|
 Sim.opn (h_ldC (t := T_api_IniPeer) (u := (T.sl T_api_Prefix)) (o_t rfl) rfl rfl F_api_IniPeer_Allowed rfl rfl) fun x98 =>
 Sim.op (h_len (o_t rfl)) fun x99 =>
 Sim.op1 (h_mv o_i) <|
 Sim.doneS <| Sim.blkI <| Sim.loop (id := 2) (σ := (Int × (GS Str))) (τ := (GS Str)) (fun s100 => ⟨[(3, .cp 3 0), (4, .fnv (.func fn_iniwrite_file_1) [] [3000000]), (5, .fnv (.func fn_iniwrite_file_2) [] []), (6, .fnv (.func fn_iniwrite_file_3) [] []), (43, .val (T.sl T_api_IniPeer) x41), (44, .val (T.int .i64) x42), (45, .val (T.int .i64) s43.1), (85, .val (T.sl T_api_Prefix) x98), (86, .val (T.int .i64) x99), (87, .val (T.int .i64) s100.1)], [(3, .cells [(1, .own 1011)]), (1011, .row T.str s100.2), (3000000, .keep (.cp 3 0))]⟩) (fun p101 => ⟨[(3, .cp 3 0), (4, .fnv (.func fn_iniwrite_file_1) [] [3000000]), (5, .fnv (.func fn_iniwrite_file_2) [] []), (6, .fnv (.func fn_iniwrite_file_3) [] []), (43, .val (T.sl T_api_IniPeer) x41), (44, .val (T.int .i64) x42), (45, .val (T.int .i64) s43.1)], [(3, .cells [(1, .own 1011)]), (1011, .row T.str p101), (3000000, .keep (.cp 3 0))]⟩) (0, p89) ⟨⟨⟨rfl, trivial⟩, ⟨⟨rfl, ⟨trivial, trivial⟩⟩, ⟨⟨rfl, trivial⟩, ⟨⟨rfl, trivial⟩, ⟨⟨rfl, trivial⟩, ⟨⟨rfl, trivial⟩, ⟨⟨rfl, trivial⟩, ⟨⟨rfl, trivial⟩, ⟨⟨rfl, trivial⟩, ⟨⟨rfl, trivial⟩, trivial⟩⟩⟩⟩⟩⟩⟩⟩⟩⟩, ⟨⟨rfl, ⟨trivial, trivial⟩⟩, ⟨⟨rfl, trivial⟩, ⟨⟨rfl, trivial⟩, trivial⟩⟩⟩⟩ (fun _ => rfl) (fun s100 =>
 Sim.seqI <| Sim.op (h_cmp (I := (IT.int .i64)) rfl (o_t rfl) (o_t rfl)) fun x102 =>
 Sim.doneS <| Sim.seqI <| Sim.cond (o_t rfl) (
 Sim.skip <| Sim.doneS <| Sim.seqI <| Sim.blkI <| Sim.seqI <| Sim.op (h_ias rfl (o_t rfl) (o_t rfl)) fun x103 =>
 Sim.opn (h_ld rfl rfl (o_t rfl)) fun x104 =>
 Sim.opM (M_alloc (t := T_api_Prefix) 10 rfl rfl) fun x105 =>
 Sim.opM (M_stC (o_t rfl) (o_t rfl) rfl rfl (Fld.id _) rfl) fun x106 =>
 Sim.doneS <| Sim.op1 (h_mv (o_t rfl)) <|
 Sim.opN (M_mkf (φs := []) (ψs := [.cp 10 0]) 3000008 (.nil) (.cons (o_t rfl) <| .nil) rfl ⟨rfl, trivial⟩ (js := []) (ks := [3000008]) rfl rfl) <|
 Sim.inl (τ := (GS Str)) (φs := [.val T.b true, .val T.str [65, 108, 108, 111, 119, 101, 100, 73, 80, 115], .fnv (.func fn_iniwrite_file_5) [] [3000008], .cp 3 0]) (n := 0) (L := [(3, .cp 3 0), (4, .fnv (.func fn_iniwrite_file_1) [] [3000000]), (5, .fnv (.func fn_iniwrite_file_2) [] []), (6, .fnv (.func fn_iniwrite_file_3) [] []), (43, .val (T.sl T_api_IniPeer) x41), (44, .val (T.int .i64) x42), (45, .val (T.int .i64) s43.1), (85, .val (T.sl T_api_Prefix) x98), (86, .val (T.int .i64) x99), (87, .val (T.int .i64) s100.1)]) (Γr := (fun p107 => ⟨[], [(3, .cells [(1, .own 1011)]), (1011, .row T.str p107), (2000003, .ghost (.cp 3 0)), (2000004, .ghost (.fnv (.func fn_iniwrite_file_1) [] [3000000])), (2000005, .ghost (.fnv (.func fn_iniwrite_file_2) [] [])), (2000006, .ghost (.fnv (.func fn_iniwrite_file_3) [] [])), (2000043, .ghost (.val (T.sl T_api_IniPeer) x41)), (2000044, .ghost (.val (T.int .i64) x42)), (2000045, .ghost (.val (T.int .i64) s43.1)), (2000085, .ghost (.val (T.sl T_api_Prefix) x98)), (2000086, .ghost (.val (T.int .i64) x99)), (2000087, .ghost (.val (T.int .i64) s100.1)), (3000000, .keep (.cp 3 0))]⟩)) 2000000 (fun p107 => ⟨[(93, .tup []), (3, .cp 3 0), (4, .fnv (.func fn_iniwrite_file_1) [] [3000000]), (5, .fnv (.func fn_iniwrite_file_2) [] []), (6, .fnv (.func fn_iniwrite_file_3) [] []), (43, .val (T.sl T_api_IniPeer) x41), (44, .val (T.int .i64) x42), (45, .val (T.int .i64) s43.1), (85, .val (T.sl T_api_Prefix) x98), (86, .val (T.int .i64) x99), (87, .val (T.int .i64) s100.1)], [(3, .cells [(1, .own 1011)]), (1011, .row T.str p107), (3000000, .keep (.cp 3 0))]⟩) f_iniwrite_file_1 rfl rfl rfl (c_callv (o_t rfl) rfl) (.cons (s_o o_b) <| .cons (s_o o_s) <| .cons (s_o (o_t rfl)) <| .cons (s_k rfl) <| .nil) ⟨⟨rfl, rfl⟩, ⟨⟨rfl, rfl⟩, ⟨⟨rfl, rfl⟩, ⟨⟨rfl, rfl⟩, ⟨⟨rfl, rfl⟩, ⟨⟨rfl, rfl⟩, ⟨⟨rfl, rfl⟩, ⟨⟨rfl, rfl⟩, ⟨⟨rfl, rfl⟩, ⟨⟨rfl, rfl⟩, trivial⟩⟩⟩⟩⟩⟩⟩⟩⟩⟩ rfl (
 Sim.seqI <| Sim.op1 (h_mv (o_t rfl)) <|
 Sim.doneS <| Sim.condT (o_t rfl) <|
 Sim.regd 3 <| SimD.late rfl (h_ldCr (o_t rfl) rfl rfl rfl) <|
 SimD.op1 rfl (h_mv (o_t rfl)) <|
 SimD.op rfl (h_sadd (o_t rfl) o_s) fun x108 =>
 SimD.op1 rfl (h_mv (o_t rfl)) <|
 SimD.inl (τ := Str) (φs := [.cp 10 0]) (n := 1) (L := [(3, .cp 3 0), (8, .own 1011), (10, .val T.str x108)]) (Γr := (fun p109 => ⟨[(0, .val T.str p109)], [(3, .cells [(1, .own 1011)]), (1011, .row T.str s100.2), (2000003, .ghost (.cp 3 0)), (2000004, .ghost (.fnv (.func fn_iniwrite_file_1) [] [3000000])), (2000005, .ghost (.fnv (.func fn_iniwrite_file_2) [] [])), (2000006, .ghost (.fnv (.func fn_iniwrite_file_3) [] [])), (2000043, .ghost (.val (T.sl T_api_IniPeer) x41)), (2000044, .ghost (.val (T.int .i64) x42)), (2000045, .ghost (.val (T.int .i64) s43.1)), (2000085, .ghost (.val (T.sl T_api_Prefix) x98)), (2000086, .ghost (.val (T.int .i64) x99)), (2000087, .ghost (.val (T.int .i64) s100.1)), (2100003, .ghost (.cp 3 0)), (2100008, .ghost (.own 1011)), (2100010, .ghost (.val T.str x108)), (3000000, .keep (.cp 3 0))]⟩)) rfl 2100000 (fun p109 => ⟨[(12, .val T.str p109), (3, .cp 3 0), (8, .own 1011), (10, .val T.str x108)], [(3, .cells [(1, .own 1011)]), (1011, .row T.str s100.2), (2000003, .ghost (.cp 3 0)), (2000004, .ghost (.fnv (.func fn_iniwrite_file_1) [] [3000000])), (2000005, .ghost (.fnv (.func fn_iniwrite_file_2) [] [])), (2000006, .ghost (.fnv (.func fn_iniwrite_file_3) [] [])), (2000043, .ghost (.val (T.sl T_api_IniPeer) x41)), (2000044, .ghost (.val (T.int .i64) x42)), (2000045, .ghost (.val (T.int .i64) s43.1)), (2000085, .ghost (.val (T.sl T_api_Prefix) x98)), (2000086, .ghost (.val (T.int .i64) x99)), (2000087, .ghost (.val (T.int .i64) s100.1)), (3000000, .keep (.cp 3 0))]⟩) (fun _ => .cons (h_ldCr (o_t rfl) rfl rfl rfl) (o_t rfl) trivial (.nil)) f_iniwrite_file_5 rfl rfl rfl (c_callv (o_t rfl) rfl) (.cons (s_k rfl) <| .nil) ⟨⟨rfl, rfl⟩, ⟨⟨rfl, rfl⟩, ⟨⟨rfl, rfl⟩, trivial⟩⟩⟩ rfl (
 Sim.seqI <| Sim.op1 (h_mv o_s) <|
 Sim.doneS <| Sim.seqI <| Sim.opn (h_ldC (t := T_api_Prefix) (u := T_api_Prefix) (o_t rfl) rfl rfl (Fld.id _) rfl rfl) fun x110 =>
 Sim.op (h_call1 sp_cidr_Text (.one (o_t rfl))) fun x111 =>
 Sim.op1 (h_mv (o_t rfl)) <|
 Sim.doneS <| Sim.retIn x111 (.cons (rg_t rfl) <| .nil) ⟨⟨⟨rfl, trivial⟩, trivial⟩, ⟨⟨rfl, ⟨trivial, trivial⟩⟩, ⟨⟨rfl, trivial⟩, ⟨⟨rfl, trivial⟩, ⟨⟨rfl, ⟨trivial, trivial⟩⟩, ⟨⟨rfl, trivial⟩, ⟨⟨rfl, trivial⟩, ⟨⟨rfl, trivial⟩, ⟨⟨rfl, trivial⟩, ⟨⟨rfl, trivial⟩, ⟨⟨rfl, trivial⟩, ⟨⟨rfl, trivial⟩, ⟨⟨rfl, trivial⟩, ⟨⟨rfl, trivial⟩, ⟨⟨rfl, trivial⟩, ⟨⟨rfl, trivial⟩, ⟨⟨rfl, trivial⟩, trivial⟩⟩⟩⟩⟩⟩⟩⟩⟩⟩⟩⟩⟩⟩⟩⟩⟩) (fun p109 => BackOk.some' ⟨⟨rfl, ⟨trivial, trivial⟩⟩, ⟨⟨rfl, trivial⟩, ⟨⟨rfl, trivial⟩, ⟨⟨rfl, ⟨trivial, trivial⟩⟩, ⟨⟨rfl, trivial⟩, ⟨⟨rfl, trivial⟩, ⟨⟨rfl, trivial⟩, ⟨⟨rfl, trivial⟩, ⟨⟨rfl, trivial⟩, ⟨⟨rfl, trivial⟩, ⟨⟨rfl, trivial⟩, ⟨⟨rfl, trivial⟩, ⟨⟨rfl, trivial⟩, trivial⟩⟩⟩⟩⟩⟩⟩⟩⟩⟩⟩⟩⟩ rfl (.one rfl) trivial ⟨⟨rfl, trivial⟩, ⟨⟨rfl, trivial⟩, ⟨⟨rfl, trivial⟩, trivial⟩⟩⟩) fun p109 =>
 SimD.op rfl (h_sadd (o_t rfl) (o_t rfl)) fun x112 =>
 SimD.op rfl (h_bll (t := T.str) (n := 1) rfl rfl (.cons rfl (o_t rfl) <| .nil _)) fun x113 =>
 SimD.opM rfl (fun _ => .nil) (M_app rfl (o_t rfl) rfl (n_sl (o_t rfl))) fun x114 =>
 SimD.opM rfl (fun _ => .nil) (M_stR rfl rfl (o_t rfl) (o_t rfl) rfl rfl) fun _ =>
 SimD.done <| Sim.finIn x114 (.nil) ⟨trivial, ⟨⟨rfl, ⟨trivial, trivial⟩⟩, ⟨⟨rfl, trivial⟩, ⟨⟨rfl, trivial⟩, ⟨⟨rfl, ⟨trivial, trivial⟩⟩, ⟨⟨rfl, trivial⟩, ⟨⟨rfl, trivial⟩, ⟨⟨rfl, trivial⟩, ⟨⟨rfl, trivial⟩, ⟨⟨rfl, trivial⟩, ⟨⟨rfl, trivial⟩, ⟨⟨rfl, trivial⟩, ⟨⟨rfl, trivial⟩, ⟨⟨rfl, trivial⟩, trivial⟩⟩⟩⟩⟩⟩⟩⟩⟩⟩⟩⟩⟩⟩) (fun p107 => BackOk.some' ⟨⟨rfl, ⟨trivial, trivial⟩⟩, ⟨⟨rfl, trivial⟩, ⟨⟨rfl, trivial⟩, trivial⟩⟩⟩ rfl .none trivial ⟨⟨rfl, trivial⟩, ⟨⟨rfl, ⟨trivial, trivial⟩⟩, ⟨⟨rfl, trivial⟩, ⟨⟨rfl, trivial⟩, ⟨⟨rfl, trivial⟩, ⟨⟨rfl, trivial⟩, ⟨⟨rfl, trivial⟩, ⟨⟨rfl, trivial⟩, ⟨⟨rfl, trivial⟩, ⟨⟨rfl, trivial⟩, trivial⟩⟩⟩⟩⟩⟩⟩⟩⟩⟩) (.one fun p107 =>
 Sim.doneB <| Sim.doneS <| Sim.op (h_add (I := (IT.int .i64)) (o_t rfl) o_i) fun x115 =>
 Sim.op1 (h_mv (o_t rfl)) <|
 Sim.next (x115, p107) ⟨⟨⟨rfl, trivial⟩, ⟨⟨rfl, ⟨trivial, trivial⟩⟩, ⟨⟨rfl, trivial⟩, ⟨⟨rfl, trivial⟩, ⟨⟨rfl, trivial⟩, ⟨⟨rfl, trivial⟩, ⟨⟨rfl, trivial⟩, ⟨⟨rfl, trivial⟩, ⟨⟨rfl, trivial⟩, ⟨⟨rfl, trivial⟩, trivial⟩⟩⟩⟩⟩⟩⟩⟩⟩⟩, ⟨⟨rfl, ⟨trivial, trivial⟩⟩, ⟨⟨rfl, trivial⟩, ⟨⟨rfl, trivial⟩, trivial⟩⟩⟩⟩)) (
 Sim.exitS <| Sim.out s100.2 ⟨⟨⟨rfl, trivial⟩, ⟨⟨rfl, ⟨trivial, trivial⟩⟩, ⟨⟨rfl, trivial⟩, ⟨⟨rfl, trivial⟩, ⟨⟨rfl, trivial⟩, ⟨⟨rfl, trivial⟩, ⟨⟨rfl, trivial⟩, trivial⟩⟩⟩⟩⟩⟩⟩, ⟨⟨rfl, ⟨trivial, trivial⟩⟩, ⟨⟨rfl, trivial⟩, ⟨⟨rfl, trivial⟩, trivial⟩⟩⟩⟩)) (fun p101 =>
 Sim.exitB <| Sim.doneB <| Sim.doneS <| Sim.op (h_add (I := (IT.int .i64)) (o_t rfl) o_i) fun x116 =>
 Sim.op1 (h_mv (o_t rfl)) <|
 Sim.next (x116, p101) ⟨⟨⟨rfl, trivial⟩, ⟨⟨rfl, ⟨trivial, trivial⟩⟩, ⟨⟨rfl, trivial⟩, ⟨⟨rfl, trivial⟩, ⟨⟨rfl, trivial⟩, ⟨⟨rfl, trivial⟩, ⟨⟨rfl, trivial⟩, trivial⟩⟩⟩⟩⟩⟩⟩, ⟨⟨rfl, ⟨trivial, trivial⟩⟩, ⟨⟨rfl, trivial⟩, ⟨⟨rfl, trivial⟩, trivial⟩⟩⟩⟩))))) (
 Sim.exitS <| Sim.out s43.2 ⟨⟨⟨rfl, trivial⟩, trivial⟩, ⟨⟨rfl, ⟨trivial, trivial⟩⟩, ⟨⟨rfl, trivial⟩, trivial⟩⟩⟩)) (fun p44 =>
 Sim.exitB <| Sim.doneS <| Sim.seqI <| Sim.op1 (h_ldCr (o_t rfl) rfl rfl rfl) <|
 Sim.op1 (h_mv (o_t rfl)) <|
 Sim.doneS <| Sim.frzRow 1011 rfl rfl <| Sim.ret (.one (res_t rfl)))
theorem sp_iniwrite_file : Spec tb fn_iniwrite_file [T_api_Ini] [(T.sl T.str)] (fun a => iniwrite_file a) :=
  Spec.of f_iniwrite_file rfl rfl rfl sim_iniwrite_file

noncomputable def lines_Join (a0 : (GS Str)) : Option Str :=
 (iter (fun (s3 : (Int × Str)) =>
 if (decide (s3.1 < (a0.l.length : Int))) = true then
 (idx a0.l s3.1).bind fun x6 =>
 (bldG s3.2 x6).bind fun x8 =>
 (bldG x8 [10]).bind fun x9 =>
 some (.inl (IntKind.i64.wrap (s3.1 + 1), x9))
 else
 some (.inr (.inl s3.2))) (0, [])).bind (Sum.elim (fun (p4 : Str) =>
 (bldT false p4).bind fun x11 =>
 some x11) some)
noncomputable def sim_lines_Join (a : Res [(T.sl T.str)]) : Sim tb ⟨argsT [(T.sl T.str)] 0 a, []⟩ c_lines_Join.body [] (QRes [T.str] c_lines_Join.res) :=
 Sim.seqI <| Sim.op1 (h_mv o_s) <|
 Sim.doneS <| Sim.seqI <| Sim.opM (M_bldA 3 5 rfl rfl) fun x1 =>
 Sim.doneS <| Sim.seqI <| Sim.seqI <| Sim.op1 (h_mv (o_t rfl)) <|
 Sim.op (h_len (o_t rfl)) fun x2 =>
 Sim.op1 (h_mv o_i) <|
 Sim.doneS <| Sim.blkI <| Sim.loop (id := 0) (σ := (Int × Str)) (τ := Str) (fun s3 => ⟨[(3, .own 3), (6, .val (T.sl T.str) a), (7, .val (T.int .i64) x2), (8, .val (T.int .i64) s3.1)], [(3, .dom (DBld 65 5 false) s3.2)]⟩) (fun p4 => ⟨[(3, .own 3)], [(3, .dom (DBld 65 5 false) p4)]⟩) (0, x1) ⟨⟨⟨rfl, trivial⟩, ⟨⟨rfl, trivial⟩, ⟨⟨rfl, trivial⟩, ⟨⟨rfl, trivial⟩, trivial⟩⟩⟩⟩, ⟨⟨rfl, trivial⟩, trivial⟩⟩ (fun _ => rfl) (fun s3 =>
 Sim.seqI <| Sim.op (h_cmp (I := (IT.int .i64)) rfl (o_t rfl) (o_t rfl)) fun x5 =>
 Sim.doneS <| Sim.seqI <| Sim.cond (o_t rfl) (
 Sim.skip <| Sim.doneS <| Sim.seqI <| Sim.blkI <| Sim.seqI <| Sim.op (h_ias rfl (o_t rfl) (o_t rfl)) fun x6 =>
 Sim.opn (h_ld rfl rfl (o_t rfl)) fun x7 =>
 Sim.op1 (h_mv (o_t rfl)) <|
 Sim.doneS <| Sim.seqI <| Sim.op1 (h_mv (o_t rfl)) <|
 Sim.opM (M_bldW f_p_strings_Builder_copyCheck rfl f_p_strings_Builder_WriteString (o_t rfl) rfl (o_t rfl)) fun x8 =>
 Sim.doneS <| Sim.opM (M_bldW f_p_strings_Builder_copyCheck rfl f_p_strings_Builder_WriteString (o_t rfl) rfl o_s) fun x9 =>
 Sim.doneB <| Sim.doneS <| Sim.op (h_add (I := (IT.int .i64)) (o_t rfl) o_i) fun x10 =>
 Sim.op1 (h_mv (o_t rfl)) <|
 Sim.next (x10, x9) ⟨⟨⟨rfl, trivial⟩, ⟨⟨rfl, trivial⟩, ⟨⟨rfl, trivial⟩, ⟨⟨rfl, trivial⟩, trivial⟩⟩⟩⟩, ⟨⟨rfl, trivial⟩, trivial⟩⟩) (
 Sim.exitS <| Sim.out s3.2 ⟨⟨⟨rfl, trivial⟩, trivial⟩, ⟨⟨rfl, trivial⟩, trivial⟩⟩)) (fun p4 =>
 Sim.exitB <| Sim.doneS <| Sim.seqI <| Sim.opM (M_bldS f_p_strings_Builder_String (o_t rfl) rfl) fun x11 =>
 Sim.op1 (h_mv (o_t rfl)) <|
 Sim.doneS <| Sim.ret (.one (res_t rfl)))
theorem sp_lines_Join : Spec tb fn_lines_Join [(T.sl T.str)] [T.str] (fun a => lines_Join a) :=
  Spec.of f_lines_Join rfl rfl rfl sim_lines_Join

noncomputable def iniwrite_Text (a0 : S_api_Ini) : Option (Str × Int) :=
 (iniwrite_Right a0).bind fun x2 =>
 if (!x2) = true then
 some ([], 1)
 else
 (iniwrite_file a0).bind fun x5 =>
 if (decide (400 < (x5.l.length : Int))) = true then
 some ([], 4)
 else
 (lines_Join x5).bind fun x8 =>
 some (x8, 0)
noncomputable def sim_iniwrite_Text (a : Res [T_api_Ini]) : Sim tb ⟨argsT [T_api_Ini] 0 a, []⟩ c_iniwrite_Text.body [] (QRes [T.str, (T.int .i64)] c_iniwrite_Text.res) :=
 Sim.seqI <| Sim.opM (M_box (t := T_api_Ini) 1 rfl rfl (o_t rfl)) fun _ =>
 Sim.op1 (h_mv o_s) <|
 Sim.op1 (h_mv o_i) <|
 Sim.doneS <| Sim.seqI <| Sim.seqI <| Sim.opn (h_ldC (t := T_api_Ini) (u := T_api_Ini) (o_t rfl) rfl rfl (Fld.id _) rfl rfl) fun x1 =>
 Sim.op (h_call1 sp_iniwrite_Right (.one (o_t rfl))) fun x2 =>
 Sim.op (h_not (o_t rfl)) fun x3 =>
 Sim.doneS <| Sim.cond (o_t rfl) (
 Sim.seqI <| Sim.op1 (h_mv o_s) <|
 Sim.op1 (h_mv o_i) <|
 Sim.doneS <| Sim.ret (.cons (res_t rfl) <| .one (res_t rfl))) (
 Sim.skip <| Sim.doneS <| Sim.seqI <| Sim.opn (h_ldC (t := T_api_Ini) (u := T_api_Ini) (o_t rfl) rfl rfl (Fld.id _) rfl rfl) fun x4 =>
 Sim.op (h_call1 sp_iniwrite_file (.one (o_t rfl))) fun x5 =>
 Sim.op1 (h_mv (o_t rfl)) <|
 Sim.doneS <| Sim.seqI <| Sim.seqI <| Sim.op1 (h_mv (o_t rfl)) <|
 Sim.op (h_len (o_t rfl)) fun x6 =>
 Sim.op (h_cmp (I := (IT.int .i64)) rfl (o_t rfl) o_i) fun x7 =>
 Sim.doneS <| Sim.cond (o_t rfl) (
 Sim.seqI <| Sim.op1 (h_mv o_s) <|
 Sim.op1 (h_mv o_i) <|
 Sim.doneS <| Sim.ret (.cons (res_t rfl) <| .one (res_t rfl))) (
 Sim.skip <| Sim.doneS <| Sim.seqI <| Sim.op1 (h_mv (o_t rfl)) <|
 Sim.op (h_call1 sp_lines_Join (.one (o_t rfl))) fun x8 =>
 Sim.op1 (h_mv (o_t rfl)) <|
 Sim.op1 (h_mv o_i) <|
 Sim.doneS <| Sim.ret (.cons (res_t rfl) <| .one (res_t rfl))))
theorem sp_iniwrite_Text : Spec tb fn_iniwrite_Text [T_api_Ini] [T.str, (T.int .i64)] (fun a => iniwrite_Text a) :=
  Spec.of f_iniwrite_Text rfl rfl rfl sim_iniwrite_Text

noncomputable def l44_alive (_ : Unit) : Option Bool :=
 (iniwrite_Text (⟨(T.arr 32 T.u8).z, 0, 0, .nil⟩ : S_api_Ini)).bind fun x2 =>
 (andO (decide (x2.2 = 0)) (let x6 := decide (x2.1 = [91, 73, 110, 116, 101, 114, 102, 97, 99, 101, 93, 10])
 some x6)).bind fun x7 =>
 some x7
noncomputable def sim_l44_alive (a : Res []) : Sim tb ⟨argsT [] 0 a, []⟩ c_l44_alive.body [] (QRes [T.b] c_l44_alive.res) :=
 Sim.seqI <| Sim.op1 (h_mv o_b) <|
 Sim.doneS <| Sim.seqI <| Sim.op (h_bld rfl rfl (.nil _)) fun x1 =>
 Sim.op (h_callN sp_iniwrite_Text (.one (o_t rfl))) fun x2 =>
 Sim.op1 (h_mv (o_t rfl)) <|
 Sim.opn (h_ext (o_t rfl) rfl) fun x3 =>
 Sim.opn (h_ext (o_t rfl) rfl) fun x4 =>
 Sim.op1 (h_mv (o_t rfl)) <|
 Sim.op1 (h_mv (o_t rfl)) <|
 Sim.doneS <| Sim.seqI <| Sim.op1 (h_mv (o_t rfl)) <|
 Sim.op (h_cmp (I := (IT.int .i64)) rfl (o_t rfl) o_i) fun x5 =>
 Sim.op1 (h_mv (o_t rfl)) <|
 Sim.and 2 rfl rfl rfl (Grp.op1 (h_mv (o_t rfl)) <|
 Grp.op (h_seql (o_t rfl) o_s) fun x6 =>
 Grp.nil (o_t rfl)) fun x7 =>
 Sim.op1 (h_mv (o_t rfl)) <|
 Sim.doneS <| Sim.ret (.one (res_t rfl))
theorem sp_l44_alive : Spec tb fn_l44_alive [] [T.b] (fun a => l44_alive ()) :=
  Spec.of f_l44_alive rfl rfl rfl sim_l44_alive

noncomputable def slices_Equal_api_Prefix (a0 : (GS S_api_Prefix)) (a1 : (GS S_api_Prefix)) : Option Bool :=
 let x3 := !decide ((a0.l.length : Int) = (a1.l.length : Int))
 if x3 = true then
 some false
 else
 (iter (fun (s5 : Int) =>
 if (decide (s5 < (a0.l.length : Int))) = true then
 (idx a0.l s5).bind fun x8 =>
 (idx a1.l s5).bind fun x10 =>
 if (!(cmpB C_api_Prefix x8 x10)) = true then
 (some false).map fun r => .inr (.inr r)
 else
 some (.inl (IntKind.i64.wrap (s5 + 1)))
 else
 some (.inr (.inl ()))) 0).bind (Sum.elim (fun (p6 : Unit) =>
 some true) some)
noncomputable def sim_slices_Equal_api_Prefix (a : Res [(T.sl T_api_Prefix), (T.sl T_api_Prefix)]) : Sim tb ⟨argsT [(T.sl T_api_Prefix), (T.sl T_api_Prefix)] 0 a, []⟩ c_slices_Equal_api_Prefix.body [] (QRes [T.b] c_slices_Equal_api_Prefix.res) :=
 Sim.seqI <| Sim.op1 (h_mv o_b) <|
 Sim.doneS <| Sim.seqI <| Sim.seqI <| Sim.op1 (h_mv (o_t rfl)) <|
 Sim.op (h_len (o_t rfl)) fun x1 =>
 Sim.op1 (h_mv (o_t rfl)) <|
 Sim.op (h_len (o_t rfl)) fun x2 =>
 Sim.op (h_cmp (I := (IT.int .i64)) rfl (o_t rfl) (o_t rfl)) fun x3 =>
 Sim.doneS <| Sim.cond (o_t rfl) (
 Sim.seqI <| Sim.op1 (h_mv o_b) <|
 Sim.doneS <| Sim.ret (.one (res_t rfl))) (
 Sim.skip <| Sim.doneS <| Sim.seqI <| Sim.seqI <| Sim.op1 (h_mv (o_t rfl)) <|
 Sim.op (h_len (o_t rfl)) fun x4 =>
 Sim.op1 (h_mv o_i) <|
 Sim.doneS <| Sim.blkI <| Sim.loop (id := 0) (σ := Int) (τ := Unit) (fun s5 => ⟨[(0, .val (T.sl T_api_Prefix) a.1), (1, .val (T.sl T_api_Prefix) a.2), (12, .val (T.int .i64) x4), (13, .val (T.int .i64) s5)], []⟩) (fun p6 => ⟨[], []⟩) 0 ⟨⟨⟨rfl, trivial⟩, ⟨⟨rfl, trivial⟩, ⟨⟨rfl, trivial⟩, ⟨⟨rfl, trivial⟩, trivial⟩⟩⟩⟩, trivial⟩ (fun _ => rfl) (fun s5 =>
 Sim.seqI <| Sim.op (h_cmp (I := (IT.int .i64)) rfl (o_t rfl) (o_t rfl)) fun x7 =>
 Sim.doneS <| Sim.seqI <| Sim.cond (o_t rfl) (
 Sim.skip <| Sim.doneS <| Sim.seqI <| Sim.blkI <| Sim.seqI <| Sim.op1 (h_mv (o_t rfl)) <|
 Sim.op1 (h_mv (o_t rfl)) <|
 Sim.doneS <| Sim.seqI <| Sim.op1 (h_mv (o_t rfl)) <|
 Sim.op1 (h_mv (o_t rfl)) <|
 Sim.op (h_ias rfl (o_t rfl) (o_t rfl)) fun x8 =>
 Sim.opn (h_ld rfl rfl (o_t rfl)) fun x9 =>
 Sim.op1 (h_mv (o_t rfl)) <|
 Sim.op1 (h_mv (o_t rfl)) <|
 Sim.op (h_ias rfl (o_t rfl) (o_t rfl)) fun x10 =>
 Sim.opn (h_ld rfl rfl (o_t rfl)) fun x11 =>
 Sim.op (h_eq C_api_Prefix rfl rfl (o_t rfl) (o_t rfl)) fun x12 =>
 Sim.doneS <| Sim.cond (o_t rfl) (
 Sim.seqI <| Sim.op1 (h_mv o_b) <|
 Sim.doneS <| Sim.outRet <| Sim.ret (.one (res_t rfl))) (
 Sim.skip <| Sim.doneB <| Sim.doneS <| Sim.op (h_add (I := (IT.int .i64)) (o_t rfl) o_i) fun x13 =>
 Sim.op1 (h_mv (o_t rfl)) <|
 Sim.next x13 ⟨⟨⟨rfl, trivial⟩, ⟨⟨rfl, trivial⟩, ⟨⟨rfl, trivial⟩, ⟨⟨rfl, trivial⟩, trivial⟩⟩⟩⟩, trivial⟩)) (
 Sim.exitS <| Sim.out () ⟨trivial, trivial⟩)) (fun p6 =>
 Sim.exitB <| Sim.doneS <| Sim.seqI <| Sim.op1 (h_mv o_b) <|
 Sim.doneS <| Sim.ret (.one (res_t rfl))))
theorem sp_slices_Equal_api_Prefix : Spec tb fn_slices_Equal_api_Prefix [(T.sl T_api_Prefix), (T.sl T_api_Prefix)] [T.b] (fun a => slices_Equal_api_Prefix a.1 a.2) :=
  Spec.of f_slices_Equal_api_Prefix rfl rfl rfl sim_slices_Equal_api_Prefix

noncomputable def iniwrite_alike (a0 : S_api_IniPeer) (a1 : S_api_IniPeer) : Option Bool :=
 (andO (cmpB (CmpC.arr 32 CmpC.u8) a0.Key a1.Key) (some (cmpB (CmpC.arr 32 CmpC.u8) a0.Psk a1.Psk))).bind fun x7 =>
 (andO x7 (some (cmpB C_api_Endpoint a0.End a1.End))).bind fun x11 =>
 (andO x11 (some (decide (a0.Keep = a1.Keep)))).bind fun x15 =>
 (andO x15 ((slices_Equal_api_Prefix a0.Allowed a1.Allowed).bind fun x18 =>
 some x18)).bind fun x19 =>
 some x19
noncomputable def sim_iniwrite_alike (a : Res [T_api_IniPeer, T_api_IniPeer]) : Sim tb ⟨argsT [T_api_IniPeer, T_api_IniPeer] 0 a, []⟩ c_iniwrite_alike.body [] (QRes [T.b] c_iniwrite_alike.res) :=
 Sim.seqI <| Sim.opM (M_box (t := T_api_IniPeer) 2 rfl rfl (o_t rfl)) fun _ =>
 Sim.opM (M_box (t := T_api_IniPeer) 3 rfl rfl (o_t rfl)) fun _ =>
 Sim.op1 (h_mv o_b) <|
 Sim.doneS <| Sim.seqI <| Sim.op1 (h_faC (o_t rfl)) <|
 Sim.opn (h_ldC (t := T_api_IniPeer) (u := (T.arr 32 T.u8)) (o_t rfl) rfl rfl F_api_IniPeer_Key rfl rfl) fun x1 =>
 Sim.op1 (h_faC (o_t rfl)) <|
 Sim.opn (h_ldC (t := T_api_IniPeer) (u := (T.arr 32 T.u8)) (o_t rfl) rfl rfl F_api_IniPeer_Key rfl rfl) fun x2 =>
 Sim.op (h_eq (CmpC.arr 32 CmpC.u8) rfl rfl (o_t rfl) (o_t rfl)) fun x3 =>
 Sim.op1 (h_mv (o_t rfl)) <|
 Sim.and 5 rfl rfl rfl (Grp.op1 (h_faC (o_t rfl)) <|
 Grp.opn (h_ldC (t := T_api_IniPeer) (u := (T.arr 32 T.u8)) (o_t rfl) rfl rfl F_api_IniPeer_Psk rfl rfl) fun x4 =>
 Grp.op1 (h_faC (o_t rfl)) <|
 Grp.opn (h_ldC (t := T_api_IniPeer) (u := (T.arr 32 T.u8)) (o_t rfl) rfl rfl F_api_IniPeer_Psk rfl rfl) fun x5 =>
 Grp.op (h_eq (CmpC.arr 32 CmpC.u8) rfl rfl (o_t rfl) (o_t rfl)) fun x6 =>
 Grp.nil (o_t rfl)) fun x7 =>
 Sim.op1 (h_mv (o_t rfl)) <|
 Sim.and 5 rfl rfl rfl (Grp.op1 (h_faC (o_t rfl)) <|
 Grp.opn (h_ldC (t := T_api_IniPeer) (u := T_api_Endpoint) (o_t rfl) rfl rfl F_api_IniPeer_End rfl rfl) fun x8 =>
 Grp.op1 (h_faC (o_t rfl)) <|
 Grp.opn (h_ldC (t := T_api_IniPeer) (u := T_api_Endpoint) (o_t rfl) rfl rfl F_api_IniPeer_End rfl rfl) fun x9 =>
 Grp.op (h_eq C_api_Endpoint rfl rfl (o_t rfl) (o_t rfl)) fun x10 =>
 Grp.nil (o_t rfl)) fun x11 =>
 Sim.op1 (h_mv (o_t rfl)) <|
 Sim.and 5 rfl rfl rfl (Grp.op1 (h_faC (o_t rfl)) <|
 Grp.opn (h_ldC (t := T_api_IniPeer) (u := (T.int .i64)) (o_t rfl) rfl rfl F_api_IniPeer_Keep rfl rfl) fun x12 =>
 Grp.op1 (h_faC (o_t rfl)) <|
 Grp.opn (h_ldC (t := T_api_IniPeer) (u := (T.int .i64)) (o_t rfl) rfl rfl F_api_IniPeer_Keep rfl rfl) fun x13 =>
 Grp.op (h_cmp (I := (IT.int .i64)) rfl (o_t rfl) (o_t rfl)) fun x14 =>
 Grp.nil (o_t rfl)) fun x15 =>
 Sim.op1 (h_mv (o_t rfl)) <|
 Sim.and 5 rfl rfl rfl (Grp.op1 (h_faC (o_t rfl)) <|
 Grp.opn (h_ldC (t := T_api_IniPeer) (u := (T.sl T_api_Prefix)) (o_t rfl) rfl rfl F_api_IniPeer_Allowed rfl rfl) fun x16 =>
 Grp.op1 (h_faC (o_t rfl)) <|
 Grp.opn (h_ldC (t := T_api_IniPeer) (u := (T.sl T_api_Prefix)) (o_t rfl) rfl rfl F_api_IniPeer_Allowed rfl rfl) fun x17 =>
 Grp.op (h_call1 sp_slices_Equal_api_Prefix (.cons (o_t rfl) <| .one (o_t rfl))) fun x18 =>
 Grp.nil (o_t rfl)) fun x19 =>
 Sim.op1 (h_mv (o_t rfl)) <|
 Sim.doneS <| Sim.ret (.one (res_t rfl))
theorem sp_iniwrite_alike : Spec tb fn_iniwrite_alike [T_api_IniPeer, T_api_IniPeer] [T.b] (fun a => iniwrite_alike a.1 a.2) :=
  Spec.of f_iniwrite_alike rfl rfl rfl sim_iniwrite_alike

noncomputable def iniwrite_Same (a0 : S_api_Ini) (a1 : S_api_Ini) : Option Bool :=
 let x3 := (cmpB (CmpC.arr 32 CmpC.u8) a0.Private a1.Private)
 (andO x3 (some (decide (a0.Port = a1.Port)))).bind fun x7 =>
 (andO x7 (let x10 := decide ((a0.Mark.toNat : Int) = (a1.Mark.toNat : Int))
 some x10)).bind fun x11 =>
 (fun (k12 : Bool → Option _) => if x11 = true then
 (let x19 := !decide ((a0.Peers.l.length : Int) = (a1.Peers.l.length : Int))
 if x19 = true then
 some false
 else
 (iter (fun (s21 : Int) =>
 if (decide (s21 < (a0.Peers.l.length : Int))) = true then
 (idx a0.Peers.l s21).bind fun x24 =>
 (idx a1.Peers.l s21).bind fun x28 =>
 (iniwrite_alike x24 x28).bind fun x34 =>
 if (!x34) = true then
 (some false).map fun r => .inr (.inr r)
 else
 some (.inl (IntKind.i64.wrap (s21 + 1)))
 else
 some (.inr (.inl ()))) 0).bind (Sum.elim (fun (p22 : Unit) =>
 some true) some) : Option Bool).bind (fun (p16 : Bool) =>
 k12 p16)
 else
 k12 false) fun x13 =>
 some x13
noncomputable def sim_iniwrite_Same (a : Res [T_api_Ini, T_api_Ini]) : Sim tb ⟨argsT [T_api_Ini, T_api_Ini] 0 a, []⟩ c_iniwrite_Same.body [] (QRes [T.b] c_iniwrite_Same.res) :=
 Sim.seqI <| Sim.opM (M_box (t := T_api_Ini) 2 rfl rfl (o_t rfl)) fun _ =>
 Sim.opM (M_box (t := T_api_Ini) 3 rfl rfl (o_t rfl)) fun _ =>
 Sim.op1 (h_mv o_b) <|
 Sim.doneS <| Sim.seqI <| Sim.op1 (h_faC (o_t rfl)) <|
 Sim.opn (h_ldC (t := T_api_Ini) (u := (T.arr 32 T.u8)) (o_t rfl) rfl rfl F_api_Ini_Private rfl rfl) fun x1 =>
 Sim.op1 (h_faC (o_t rfl)) <|
 Sim.opn (h_ldC (t := T_api_Ini) (u := (T.arr 32 T.u8)) (o_t rfl) rfl rfl F_api_Ini_Private rfl rfl) fun x2 =>
 Sim.op (h_eq (CmpC.arr 32 CmpC.u8) rfl rfl (o_t rfl) (o_t rfl)) fun x3 =>
 Sim.op1 (h_mv (o_t rfl)) <|
 Sim.and 5 rfl rfl rfl (Grp.op1 (h_faC (o_t rfl)) <|
 Grp.opn (h_ldC (t := T_api_Ini) (u := (T.int .i64)) (o_t rfl) rfl rfl F_api_Ini_Port rfl rfl) fun x4 =>
 Grp.op1 (h_faC (o_t rfl)) <|
 Grp.opn (h_ldC (t := T_api_Ini) (u := (T.int .i64)) (o_t rfl) rfl rfl F_api_Ini_Port rfl rfl) fun x5 =>
 Grp.op (h_cmp (I := (IT.int .i64)) rfl (o_t rfl) (o_t rfl)) fun x6 =>
 Grp.nil (o_t rfl)) fun x7 =>
 Sim.op1 (h_mv (o_t rfl)) <|
 Sim.and 5 rfl rfl rfl (Grp.op1 (h_faC (o_t rfl)) <|
 Grp.opn (h_ldC (t := T_api_Ini) (u := T.u32) (o_t rfl) rfl rfl F_api_Ini_Mark rfl rfl) fun x8 =>
 Grp.op1 (h_faC (o_t rfl)) <|
 Grp.opn (h_ldC (t := T_api_Ini) (u := T.u32) (o_t rfl) rfl rfl F_api_Ini_Mark rfl rfl) fun x9 =>
 Grp.op (h_cmp (I := IT.u32) rfl (o_t rfl) (o_t rfl)) fun x10 =>
 Grp.nil (o_t rfl)) fun x11 =>
 Sim.op1 (h_mv (o_t rfl)) <|
 Sim.andI ⟨[], []⟩ 5 rfl rfl rfl (fun _ => ⟨⟨⟨rfl, trivial⟩, trivial⟩, trivial⟩) (fun x13 =>
 Sim.op1 (h_mv (o_t rfl)) <|
 Sim.doneS <| Sim.ret (.one (res_t rfl))) fun k12 =>
 Sim.op1 (h_faC (o_t rfl)) <|
 Sim.opn (h_ldC (t := T_api_Ini) (u := (T.sl T_api_IniPeer)) (o_t rfl) rfl rfl F_api_Ini_Peers rfl rfl) fun x14 =>
 Sim.op1 (h_faC (o_t rfl)) <|
 Sim.opn (h_ldC (t := T_api_Ini) (u := (T.sl T_api_IniPeer)) (o_t rfl) rfl rfl F_api_Ini_Peers rfl rfl) fun x15 =>
 Sim.inl (τ := Bool) (φs := [.val (T.sl T_api_IniPeer) x14, .val (T.sl T_api_IniPeer) x15, .fnv (.func fn_iniwrite_alike) [] []]) (n := 1) (L := [(24, .val T.b true)]) (Γr := (fun p16 => ⟨[(0, .val T.b p16)], [(2000024, .ghost (.val T.b true))]⟩)) 2000000 (fun p16 => ⟨[(29, .val T.b p16), (24, .val T.b true)], []⟩) f_slices_EqualFunc_api_IniPeer_api_IniPeer rfl rfl rfl (c_call rfl) (.cons (s_o (o_t rfl)) <| .cons (s_o (o_t rfl)) <| .cons (s_o o_fn) <| .nil) ⟨⟨rfl, rfl⟩, trivial⟩ rfl (
 Sim.seqI <| Sim.op1 (h_mv o_b) <|
 Sim.doneS <| Sim.seqI <| Sim.seqI <| Sim.op1 (h_mv (o_t rfl)) <|
 Sim.op (h_len (o_t rfl)) fun x17 =>
 Sim.op1 (h_mv (o_t rfl)) <|
 Sim.op (h_len (o_t rfl)) fun x18 =>
 Sim.op (h_cmp (I := (IT.int .i64)) rfl (o_t rfl) (o_t rfl)) fun x19 =>
 Sim.doneS <| Sim.cond (o_t rfl) (
 Sim.seqI <| Sim.op1 (h_mv o_b) <|
 Sim.doneS <| Sim.retIn false (.cons (rg_t rfl) <| .nil) ⟨⟨⟨rfl, trivial⟩, trivial⟩, ⟨⟨rfl, trivial⟩, trivial⟩⟩) (
 Sim.skip <| Sim.doneS <| Sim.seqI <| Sim.seqI <| Sim.op1 (h_mv (o_t rfl)) <|
 Sim.op (h_len (o_t rfl)) fun x20 =>
 Sim.op1 (h_mv o_i) <|
 Sim.doneS <| Sim.blkI <| Sim.loop (id := 0) (σ := Int) (τ := Unit) (fun s21 => ⟨[(1, .val (T.sl T_api_IniPeer) x15), (2, .fnv (.func fn_iniwrite_alike) [] []), (15, .val (T.sl T_api_IniPeer) x14), (16, .val (T.int .i64) x20), (17, .val (T.int .i64) s21)], [(2000024, .ghost (.val T.b true))]⟩) (fun p22 => ⟨[], [(2000024, .ghost (.val T.b true))]⟩) 0 ⟨⟨⟨rfl, trivial⟩, ⟨⟨rfl, trivial⟩, ⟨⟨rfl, trivial⟩, ⟨⟨rfl, trivial⟩, ⟨⟨rfl, trivial⟩, trivial⟩⟩⟩⟩⟩, ⟨⟨rfl, trivial⟩, trivial⟩⟩ (fun _ => rfl) (fun s21 =>
 Sim.seqI <| Sim.op (h_cmp (I := (IT.int .i64)) rfl (o_t rfl) (o_t rfl)) fun x23 =>
 Sim.doneS <| Sim.seqI <| Sim.cond (o_t rfl) (
 Sim.skip <| Sim.doneS <| Sim.seqI <| Sim.blkI <| Sim.seqI <| Sim.op1 (h_mv (o_t rfl)) <|
 Sim.op (h_ias rfl (o_t rfl) (o_t rfl)) fun x24 =>
 Sim.opn (h_ld rfl rfl (o_t rfl)) fun x25 =>
 Sim.opM (M_alloc (t := T_api_IniPeer) 8 rfl rfl) fun x26 =>
 Sim.op1 (h_mv (o_t rfl)) <|
 Sim.opM (M_stC (o_t rfl) (o_t rfl) rfl rfl (Fld.id _) rfl) fun x27 =>
 Sim.doneS <| Sim.seqI <| Sim.op1 (h_mv (o_t rfl)) <|
 Sim.op1 (h_mv (o_t rfl)) <|
 Sim.op (h_ias rfl (o_t rfl) (o_t rfl)) fun x28 =>
 Sim.opn (h_ld rfl rfl (o_t rfl)) fun x29 =>
 Sim.opM (M_alloc (t := T_api_IniPeer) 9 rfl rfl) fun x30 =>
 Sim.opM (M_stC (o_t rfl) (o_t rfl) rfl rfl (Fld.id _) rfl) fun x31 =>
 Sim.doneS <| Sim.seqI <| Sim.op1 (h_mv (o_t rfl)) <|
 Sim.opn (h_ldC (t := T_api_IniPeer) (u := T_api_IniPeer) (o_t rfl) rfl rfl (Fld.id _) rfl rfl) fun x32 =>
 Sim.opn (h_ldC (t := T_api_IniPeer) (u := T_api_IniPeer) (o_t rfl) rfl rfl (Fld.id _) rfl rfl) fun x33 =>
 Sim.op (h_callS1 sp_iniwrite_alike (c_callv (o_t rfl) rfl) (.cons (s_o (o_t rfl)) <| .one (s_o (o_t rfl)))) fun x34 =>
 Sim.op (h_not (o_t rfl)) fun x35 =>
 Sim.doneS <| Sim.cond (o_t rfl) (
 Sim.seqI <| Sim.op1 (h_mv o_b) <|
 Sim.doneS <| Sim.outRet <| Sim.retIn false (.cons (rg_t rfl) <| .nil) ⟨⟨⟨rfl, trivial⟩, trivial⟩, ⟨⟨rfl, trivial⟩, trivial⟩⟩) (
 Sim.skip <| Sim.doneB <| Sim.doneS <| Sim.op (h_add (I := (IT.int .i64)) (o_t rfl) o_i) fun x36 =>
 Sim.op1 (h_mv (o_t rfl)) <|
 Sim.next x36 ⟨⟨⟨rfl, trivial⟩, ⟨⟨rfl, trivial⟩, ⟨⟨rfl, trivial⟩, ⟨⟨rfl, trivial⟩, ⟨⟨rfl, trivial⟩, trivial⟩⟩⟩⟩⟩, ⟨⟨rfl, trivial⟩, trivial⟩⟩)) (
 Sim.exitS <| Sim.out () ⟨trivial, ⟨⟨rfl, trivial⟩, trivial⟩⟩)) (fun p22 =>
 Sim.exitB <| Sim.doneS <| Sim.seqI <| Sim.op1 (h_mv o_b) <|
 Sim.doneS <| Sim.retIn true (.cons (rg_t rfl) <| .nil) ⟨⟨⟨rfl, trivial⟩, trivial⟩, ⟨⟨rfl, trivial⟩, trivial⟩⟩))) (fun p16 => BackOk.some' trivial rfl (.one rfl) trivial ⟨⟨rfl, trivial⟩, trivial⟩) (.one fun p16 =>
 Sim.pickI (Γ0 := ⟨[], []⟩) rfl (o_t rfl) ⟨⟨⟨rfl, trivial⟩, trivial⟩, trivial⟩ k12)
theorem sp_iniwrite_Same : Spec tb fn_iniwrite_Same [T_api_Ini, T_api_Ini] [T.b] (fun a => iniwrite_Same a.1 a.2) :=
  Spec.of f_iniwrite_Same rfl rfl rfl sim_iniwrite_Same

noncomputable def r11_Same (a0 : (GS S_api_Prefix)) (a1 : (GS S_api_Prefix)) : Option Bool :=
 let x3 := !decide ((a0.l.length : Int) = (a1.l.length : Int))
 if x3 = true then
 some false
 else
 (iter (fun (s4 : Int) =>
 if (decide (s4 < (a0.l.length : Int))) = true then
 (idx a0.l s4).bind fun x8 =>
 (idx a1.l s4).bind fun x10 =>
 if (!(cmpB C_api_Prefix x8 x10)) = true then
 (some false).map fun r => .inr (.inr r)
 else
 some (.inl (IntKind.i64.wrap (s4 + 1)))
 else
 some (.inr (.inl ()))) 0).bind (Sum.elim (fun (p5 : Unit) =>
 some true) some)
noncomputable def sim_r11_Same (a : Res [(T.sl T_api_Prefix), (T.sl T_api_Prefix)]) : Sim tb ⟨argsT [(T.sl T_api_Prefix), (T.sl T_api_Prefix)] 0 a, []⟩ c_r11_Same.body [] (QRes [T.b] c_r11_Same.res) :=
 Sim.seqI <| Sim.op1 (h_mv o_b) <|
 Sim.doneS <| Sim.seqI <| Sim.seqI <| Sim.op1 (h_mv (o_t rfl)) <|
 Sim.op (h_len (o_t rfl)) fun x1 =>
 Sim.op1 (h_mv (o_t rfl)) <|
 Sim.op (h_len (o_t rfl)) fun x2 =>
 Sim.op (h_cmp (I := (IT.int .i64)) rfl (o_t rfl) (o_t rfl)) fun x3 =>
 Sim.doneS <| Sim.cond (o_t rfl) (
 Sim.seqI <| Sim.op1 (h_mv o_b) <|
 Sim.doneS <| Sim.ret (.one (res_t rfl))) (
 Sim.skip <| Sim.doneS <| Sim.seqI <| Sim.seqI <| Sim.op1 (h_mv o_i) <|
 Sim.doneS <| Sim.blkI <| Sim.loop (id := 0) (σ := Int) (τ := Unit) (fun s4 => ⟨[(0, .val (T.sl T_api_Prefix) a.1), (1, .val (T.sl T_api_Prefix) a.2), (5, .val (T.int .i64) s4)], []⟩) (fun p5 => ⟨[], []⟩) 0 ⟨⟨⟨rfl, trivial⟩, ⟨⟨rfl, trivial⟩, ⟨⟨rfl, trivial⟩, trivial⟩⟩⟩, trivial⟩ (fun _ => rfl) (fun s4 =>
 Sim.seqI <| Sim.seqI <| Sim.op1 (h_mv (o_t rfl)) <|
 Sim.op1 (h_mv (o_t rfl)) <|
 Sim.op (h_len (o_t rfl)) fun x6 =>
 Sim.op (h_cmp (I := (IT.int .i64)) rfl (o_t rfl) (o_t rfl)) fun x7 =>
 Sim.doneS <| Sim.cond (o_t rfl) (
 Sim.skip <| Sim.doneS <| Sim.seqI <| Sim.blkI <| Sim.seqI <| Sim.op1 (h_mv (o_t rfl)) <|
 Sim.op1 (h_mv (o_t rfl)) <|
 Sim.op (h_ias rfl (o_t rfl) (o_t rfl)) fun x8 =>
 Sim.opn (h_ld rfl rfl (o_t rfl)) fun x9 =>
 Sim.op1 (h_mv (o_t rfl)) <|
 Sim.op1 (h_mv (o_t rfl)) <|
 Sim.op (h_ias rfl (o_t rfl) (o_t rfl)) fun x10 =>
 Sim.opn (h_ld rfl rfl (o_t rfl)) fun x11 =>
 Sim.op (h_eq C_api_Prefix rfl rfl (o_t rfl) (o_t rfl)) fun x12 =>
 Sim.doneS <| Sim.cond (o_t rfl) (
 Sim.seqI <| Sim.op1 (h_mv o_b) <|
 Sim.doneS <| Sim.outRet <| Sim.ret (.one (res_t rfl))) (
 Sim.skip <| Sim.doneB <| Sim.doneS <| Sim.op1 (h_mv (o_t rfl)) <|
 Sim.op (h_add (I := (IT.int .i64)) (o_t rfl) o_i) fun x13 =>
 Sim.op1 (h_mv (o_t rfl)) <|
 Sim.next x13 ⟨⟨⟨rfl, trivial⟩, ⟨⟨rfl, trivial⟩, ⟨⟨rfl, trivial⟩, trivial⟩⟩⟩, trivial⟩)) (
 Sim.exitS <| Sim.out () ⟨trivial, trivial⟩)) (fun p5 =>
 Sim.exitB <| Sim.doneS <| Sim.seqI <| Sim.op1 (h_mv o_b) <|
 Sim.doneS <| Sim.ret (.one (res_t rfl))))
theorem sp_r11_Same : Spec tb fn_r11_Same [(T.sl T_api_Prefix), (T.sl T_api_Prefix)] [T.b] (fun a => r11_Same a.1 a.2) :=
  Spec.of f_r11_Same rfl rfl rfl sim_r11_Same

noncomputable def r43_Same (a0 : S_api_Ini) (a1 : S_api_Ini) : Option Bool :=
 let x3 := !(cmpB (CmpC.arr 32 CmpC.u8) a0.Private a1.Private)
 (orO x3 (some (!decide (a0.Port = a1.Port)))).bind fun x7 =>
 (orO x7 (let x10 := !decide ((a0.Mark.toNat : Int) = (a1.Mark.toNat : Int))
 some x10)).bind fun x11 =>
 (orO x11 (let x16 := !decide ((a0.Peers.l.length : Int) = (a1.Peers.l.length : Int))
 some x16)).bind fun x17 =>
 if x17 = true then
 some false
 else
 (iter (fun (s18 : Int) =>
 if (decide (s18 < (a0.Peers.l.length : Int))) = true then
 (idx a0.Peers.l s18).bind fun x24 =>
 (idx a1.Peers.l s18).bind fun x29 =>
 (orO (!(cmpB (CmpC.arr 32 CmpC.u8) x24.Key x29.Key)) (some (!(cmpB (CmpC.arr 32 CmpC.u8) x24.Psk x29.Psk)))).bind fun x39 =>
 (orO x39 (some (!(cmpB C_api_Endpoint x24.End x29.End)))).bind fun x43 =>
 (orO x43 (some (!decide (x24.Keep = x29.Keep)))).bind fun x47 =>
 (orO x47 ((r11_Same x24.Allowed x29.Allowed).bind fun x50 =>
 some (!x50))).bind fun x52 =>
 if x52 = true then
 (some false).map fun r => .inr (.inr r)
 else
 some (.inl (IntKind.i64.wrap (s18 + 1)))
 else
 some (.inr (.inl ()))) 0).bind (Sum.elim (fun (p19 : Unit) =>
 some true) some)
noncomputable def sim_r43_Same (a : Res [T_api_Ini, T_api_Ini]) : Sim tb ⟨argsT [T_api_Ini, T_api_Ini] 0 a, []⟩ c_r43_Same.body [] (QRes [T.b] c_r43_Same.res) :=
 Sim.seqI <| Sim.opM (M_box (t := T_api_Ini) 2 rfl rfl (o_t rfl)) fun _ =>
 Sim.opM (M_box (t := T_api_Ini) 3 rfl rfl (o_t rfl)) fun _ =>
 Sim.op1 (h_mv o_b) <|
 Sim.doneS <| Sim.seqI <| Sim.seqI <| Sim.op1 (h_faC (o_t rfl)) <|
 Sim.opn (h_ldC (t := T_api_Ini) (u := (T.arr 32 T.u8)) (o_t rfl) rfl rfl F_api_Ini_Private rfl rfl) fun x1 =>
 Sim.op1 (h_faC (o_t rfl)) <|
 Sim.opn (h_ldC (t := T_api_Ini) (u := (T.arr 32 T.u8)) (o_t rfl) rfl rfl F_api_Ini_Private rfl rfl) fun x2 =>
 Sim.op (h_eq (CmpC.arr 32 CmpC.u8) rfl rfl (o_t rfl) (o_t rfl)) fun x3 =>
 Sim.op1 (h_mv (o_t rfl)) <|
 Sim.or 5 rfl rfl rfl (Grp.op1 (h_faC (o_t rfl)) <|
 Grp.opn (h_ldC (t := T_api_Ini) (u := (T.int .i64)) (o_t rfl) rfl rfl F_api_Ini_Port rfl rfl) fun x4 =>
 Grp.op1 (h_faC (o_t rfl)) <|
 Grp.opn (h_ldC (t := T_api_Ini) (u := (T.int .i64)) (o_t rfl) rfl rfl F_api_Ini_Port rfl rfl) fun x5 =>
 Grp.op (h_cmp (I := (IT.int .i64)) rfl (o_t rfl) (o_t rfl)) fun x6 =>
 Grp.nil (o_t rfl)) fun x7 =>
 Sim.op1 (h_mv (o_t rfl)) <|
 Sim.or 5 rfl rfl rfl (Grp.op1 (h_faC (o_t rfl)) <|
 Grp.opn (h_ldC (t := T_api_Ini) (u := T.u32) (o_t rfl) rfl rfl F_api_Ini_Mark rfl rfl) fun x8 =>
 Grp.op1 (h_faC (o_t rfl)) <|
 Grp.opn (h_ldC (t := T_api_Ini) (u := T.u32) (o_t rfl) rfl rfl F_api_Ini_Mark rfl rfl) fun x9 =>
 Grp.op (h_cmp (I := IT.u32) rfl (o_t rfl) (o_t rfl)) fun x10 =>
 Grp.nil (o_t rfl)) fun x11 =>
 Sim.op1 (h_mv (o_t rfl)) <|
 Sim.or 7 rfl rfl rfl (Grp.op1 (h_faC (o_t rfl)) <|
 Grp.opn (h_ldC (t := T_api_Ini) (u := (T.sl T_api_IniPeer)) (o_t rfl) rfl rfl F_api_Ini_Peers rfl rfl) fun x12 =>
 Grp.op (h_len (o_t rfl)) fun x13 =>
 Grp.op1 (h_faC (o_t rfl)) <|
 Grp.opn (h_ldC (t := T_api_Ini) (u := (T.sl T_api_IniPeer)) (o_t rfl) rfl rfl F_api_Ini_Peers rfl rfl) fun x14 =>
 Grp.op (h_len (o_t rfl)) fun x15 =>
 Grp.op (h_cmp (I := (IT.int .i64)) rfl (o_t rfl) (o_t rfl)) fun x16 =>
 Grp.nil (o_t rfl)) fun x17 =>
 Sim.doneS <| Sim.cond (o_t rfl) (
 Sim.seqI <| Sim.op1 (h_mv o_b) <|
 Sim.doneS <| Sim.ret (.one (res_t rfl))) (
 Sim.skip <| Sim.doneS <| Sim.seqI <| Sim.seqI <| Sim.op1 (h_mv o_i) <|
 Sim.doneS <| Sim.blkI <| Sim.loop (id := 0) (σ := Int) (τ := Unit) (fun s18 => ⟨[(2, .cp 2 0), (3, .cp 3 0), (5, .val (T.int .i64) s18)], [(2, .cells [(35, .val T_api_Ini a.1)]), (3, .cells [(35, .val T_api_Ini a.2)])]⟩) (fun p19 => ⟨[], []⟩) 0 ⟨⟨⟨rfl, trivial⟩, ⟨⟨rfl, trivial⟩, ⟨⟨rfl, trivial⟩, trivial⟩⟩⟩, ⟨⟨rfl, ⟨trivial, trivial⟩⟩, ⟨⟨rfl, ⟨trivial, trivial⟩⟩, trivial⟩⟩⟩ (fun _ => rfl) (fun s18 =>
 Sim.seqI <| Sim.seqI <| Sim.op1 (h_mv (o_t rfl)) <|
 Sim.op1 (h_faC (o_t rfl)) <|
 Sim.opn (h_ldC (t := T_api_Ini) (u := (T.sl T_api_IniPeer)) (o_t rfl) rfl rfl F_api_Ini_Peers rfl rfl) fun x20 =>
 Sim.op (h_len (o_t rfl)) fun x21 =>
 Sim.op (h_cmp (I := (IT.int .i64)) rfl (o_t rfl) (o_t rfl)) fun x22 =>
 Sim.doneS <| Sim.cond (o_t rfl) (
 Sim.skip <| Sim.doneS <| Sim.seqI <| Sim.blkI <| Sim.seqI <| Sim.op1 (h_faC (o_t rfl)) <|
 Sim.opn (h_ldC (t := T_api_Ini) (u := (T.sl T_api_IniPeer)) (o_t rfl) rfl rfl F_api_Ini_Peers rfl rfl) fun x23 =>
 Sim.op1 (h_mv (o_t rfl)) <|
 Sim.op (h_ias rfl (o_t rfl) (o_t rfl)) fun x24 =>
 Sim.opn (h_ld rfl rfl (o_t rfl)) fun x25 =>
 Sim.opM (M_alloc (t := T_api_IniPeer) 6 rfl rfl) fun x26 =>
 Sim.opM (M_stC (o_t rfl) (o_t rfl) rfl rfl (Fld.id _) rfl) fun x27 =>
 Sim.doneS <| Sim.seqI <| Sim.op1 (h_faC (o_t rfl)) <|
 Sim.opn (h_ldC (t := T_api_Ini) (u := (T.sl T_api_IniPeer)) (o_t rfl) rfl rfl F_api_Ini_Peers rfl rfl) fun x28 =>
 Sim.op1 (h_mv (o_t rfl)) <|
 Sim.op (h_ias rfl (o_t rfl) (o_t rfl)) fun x29 =>
 Sim.opn (h_ld rfl rfl (o_t rfl)) fun x30 =>
 Sim.opM (M_alloc (t := T_api_IniPeer) 7 rfl rfl) fun x31 =>
 Sim.opM (M_stC (o_t rfl) (o_t rfl) rfl rfl (Fld.id _) rfl) fun x32 =>
 Sim.doneS <| Sim.seqI <| Sim.op1 (h_faC (o_t rfl)) <|
 Sim.opn (h_ldC (t := T_api_IniPeer) (u := (T.arr 32 T.u8)) (o_t rfl) rfl rfl F_api_IniPeer_Key rfl rfl) fun x33 =>
 Sim.op1 (h_faC (o_t rfl)) <|
 Sim.opn (h_ldC (t := T_api_IniPeer) (u := (T.arr 32 T.u8)) (o_t rfl) rfl rfl F_api_IniPeer_Key rfl rfl) fun x34 =>
 Sim.op (h_eq (CmpC.arr 32 CmpC.u8) rfl rfl (o_t rfl) (o_t rfl)) fun x35 =>
 Sim.op1 (h_mv (o_t rfl)) <|
 Sim.or 5 rfl rfl rfl (Grp.op1 (h_faC (o_t rfl)) <|
 Grp.opn (h_ldC (t := T_api_IniPeer) (u := (T.arr 32 T.u8)) (o_t rfl) rfl rfl F_api_IniPeer_Psk rfl rfl) fun x36 =>
 Grp.op1 (h_faC (o_t rfl)) <|
 Grp.opn (h_ldC (t := T_api_IniPeer) (u := (T.arr 32 T.u8)) (o_t rfl) rfl rfl F_api_IniPeer_Psk rfl rfl) fun x37 =>
 Grp.op (h_eq (CmpC.arr 32 CmpC.u8) rfl rfl (o_t rfl) (o_t rfl)) fun x38 =>
 Grp.nil (o_t rfl)) fun x39 =>
 Sim.op1 (h_mv (o_t rfl)) <|
 Sim.or 5 rfl rfl rfl (Grp.op1 (h_faC (o_t rfl)) <|
 Grp.opn (h_ldC (t := T_api_IniPeer) (u := T_api_Endpoint) (o_t rfl) rfl rfl F_api_IniPeer_End rfl rfl) fun x40 =>
 Grp.op1 (h_faC (o_t rfl)) <|
 Grp.opn (h_ldC (t := T_api_IniPeer) (u := T_api_Endpoint) (o_t rfl) rfl rfl F_api_IniPeer_End rfl rfl) fun x41 =>
 Grp.op (h_eq C_api_Endpoint rfl rfl (o_t rfl) (o_t rfl)) fun x42 =>
 Grp.nil (o_t rfl)) fun x43 =>
 Sim.op1 (h_mv (o_t rfl)) <|
 Sim.or 5 rfl rfl rfl (Grp.op1 (h_faC (o_t rfl)) <|
 Grp.opn (h_ldC (t := T_api_IniPeer) (u := (T.int .i64)) (o_t rfl) rfl rfl F_api_IniPeer_Keep rfl rfl) fun x44 =>
 Grp.op1 (h_faC (o_t rfl)) <|
 Grp.opn (h_ldC (t := T_api_IniPeer) (u := (T.int .i64)) (o_t rfl) rfl rfl F_api_IniPeer_Keep rfl rfl) fun x45 =>
 Grp.op (h_cmp (I := (IT.int .i64)) rfl (o_t rfl) (o_t rfl)) fun x46 =>
 Grp.nil (o_t rfl)) fun x47 =>
 Sim.op1 (h_mv (o_t rfl)) <|
 Sim.or 6 rfl rfl rfl (Grp.op1 (h_faC (o_t rfl)) <|
 Grp.opn (h_ldC (t := T_api_IniPeer) (u := (T.sl T_api_Prefix)) (o_t rfl) rfl rfl F_api_IniPeer_Allowed rfl rfl) fun x48 =>
 Grp.op1 (h_faC (o_t rfl)) <|
 Grp.opn (h_ldC (t := T_api_IniPeer) (u := (T.sl T_api_Prefix)) (o_t rfl) rfl rfl F_api_IniPeer_Allowed rfl rfl) fun x49 =>
 Grp.op (h_call1 sp_r11_Same (.cons (o_t rfl) <| .one (o_t rfl))) fun x50 =>
 Grp.op (h_not (o_t rfl)) fun x51 =>
 Grp.nil (o_t rfl)) fun x52 =>
 Sim.doneS <| Sim.cond (o_t rfl) (
 Sim.seqI <| Sim.op1 (h_mv o_b) <|
 Sim.doneS <| Sim.outRet <| Sim.ret (.one (res_t rfl))) (
 Sim.skip <| Sim.doneB <| Sim.doneS <| Sim.op1 (h_mv (o_t rfl)) <|
 Sim.op (h_add (I := (IT.int .i64)) (o_t rfl) o_i) fun x53 =>
 Sim.op1 (h_mv (o_t rfl)) <|
 Sim.next x53 ⟨⟨⟨rfl, trivial⟩, ⟨⟨rfl, trivial⟩, ⟨⟨rfl, trivial⟩, trivial⟩⟩⟩, ⟨⟨rfl, ⟨trivial, trivial⟩⟩, ⟨⟨rfl, ⟨trivial, trivial⟩⟩, trivial⟩⟩⟩)) (
 Sim.exitS <| Sim.out () ⟨trivial, trivial⟩)) (fun p19 =>
 Sim.exitB <| Sim.doneS <| Sim.seqI <| Sim.op1 (h_mv o_b) <|
 Sim.doneS <| Sim.ret (.one (res_t rfl))))
theorem sp_r43_Same : Spec tb fn_r43_Same [T_api_Ini, T_api_Ini] [T.b] (fun a => r43_Same a.1 a.2) :=
  Spec.of f_r43_Same rfl rfl rfl sim_r43_Same

noncomputable def l44_IniwriteSame (a0 : S_api_Ini) (a1 : S_api_Ini) : Option Bool :=
 (r43_Large a0).bind fun x2 =>
 (orO x2 ((r43_Large a1).bind fun x4 =>
 some x4)).bind fun x5 =>
 if x5 = true then
 (l44_alive ()).bind fun x6 =>
 some x6
 else
 (iniwrite_Same a0 a1).bind fun x9 =>
 (r43_Same a0 a1).bind fun x12 =>
 (andO (decide (x9 = x12)) ((iniwrite_Same a0 a0).bind fun x16 =>
 some x16)).bind fun x17 =>
 (andO x17 ((l44_alive ()).bind fun x18 =>
 some x18)).bind fun x19 =>
 some x19
noncomputable def sim_l44_IniwriteSame (a : Res [T_api_Ini, T_api_Ini]) : Sim tb ⟨argsT [T_api_Ini, T_api_Ini] 0 a, []⟩ c_l44_IniwriteSame.body [] (QRes [T.b] c_l44_IniwriteSame.res) :=
 Sim.seqI <| Sim.opM (M_box (t := T_api_Ini) 2 rfl rfl (o_t rfl)) fun _ =>
 Sim.opM (M_box (t := T_api_Ini) 3 rfl rfl (o_t rfl)) fun _ =>
 Sim.op1 (h_mv o_b) <|
 Sim.doneS <| Sim.seqI <| Sim.seqI <| Sim.opn (h_ldC (t := T_api_Ini) (u := T_api_Ini) (o_t rfl) rfl rfl (Fld.id _) rfl rfl) fun x1 =>
 Sim.op (h_call1 sp_r43_Large (.one (o_t rfl))) fun x2 =>
 Sim.op1 (h_mv (o_t rfl)) <|
 Sim.or 2 rfl rfl rfl (Grp.opn (h_ldC (t := T_api_Ini) (u := T_api_Ini) (o_t rfl) rfl rfl (Fld.id _) rfl rfl) fun x3 =>
 Grp.op (h_call1 sp_r43_Large (.one (o_t rfl))) fun x4 =>
 Grp.nil (o_t rfl)) fun x5 =>
 Sim.doneS <| Sim.cond (o_t rfl) (
 Sim.seqI <| Sim.op (h_call1 sp_l44_alive (.nil)) fun x6 =>
 Sim.op1 (h_mv (o_t rfl)) <|
 Sim.doneS <| Sim.ret (.one (res_t rfl))) (
 Sim.skip <| Sim.doneS <| Sim.seqI <| Sim.opn (h_ldC (t := T_api_Ini) (u := T_api_Ini) (o_t rfl) rfl rfl (Fld.id _) rfl rfl) fun x7 =>
 Sim.opn (h_ldC (t := T_api_Ini) (u := T_api_Ini) (o_t rfl) rfl rfl (Fld.id _) rfl rfl) fun x8 =>
 Sim.op (h_call1 sp_iniwrite_Same (.cons (o_t rfl) <| .one (o_t rfl))) fun x9 =>
 Sim.opn (h_ldC (t := T_api_Ini) (u := T_api_Ini) (o_t rfl) rfl rfl (Fld.id _) rfl rfl) fun x10 =>
 Sim.opn (h_ldC (t := T_api_Ini) (u := T_api_Ini) (o_t rfl) rfl rfl (Fld.id _) rfl rfl) fun x11 =>
 Sim.op (h_call1 sp_r43_Same (.cons (o_t rfl) <| .one (o_t rfl))) fun x12 =>
 Sim.op (h_eqb (neg := false) (o_t rfl) (o_t rfl)) fun x13 =>
 Sim.op1 (h_mv (o_t rfl)) <|
 Sim.and 3 rfl rfl rfl (Grp.opn (h_ldC (t := T_api_Ini) (u := T_api_Ini) (o_t rfl) rfl rfl (Fld.id _) rfl rfl) fun x14 =>
 Grp.opn (h_ldC (t := T_api_Ini) (u := T_api_Ini) (o_t rfl) rfl rfl (Fld.id _) rfl rfl) fun x15 =>
 Grp.op (h_call1 sp_iniwrite_Same (.cons (o_t rfl) <| .one (o_t rfl))) fun x16 =>
 Grp.nil (o_t rfl)) fun x17 =>
 Sim.op1 (h_mv (o_t rfl)) <|
 Sim.and 1 rfl rfl rfl (Grp.op (h_call1 sp_l44_alive (.nil)) fun x18 =>
 Grp.nil (o_t rfl)) fun x19 =>
 Sim.op1 (h_mv (o_t rfl)) <|
 Sim.doneS <| Sim.ret (.one (res_t rfl)))
theorem sp_l44_IniwriteSame : Spec tb fn_l44_IniwriteSame [T_api_Ini, T_api_Ini] [T.b] (fun a => l44_IniwriteSame a.1 a.2) :=
  Spec.of f_l44_IniwriteSame rfl rfl rfl sim_l44_IniwriteSame

end Go.Proofs.YtopgecohakediaaDoor.Am
